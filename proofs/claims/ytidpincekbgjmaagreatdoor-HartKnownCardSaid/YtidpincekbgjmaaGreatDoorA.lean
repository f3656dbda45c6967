/-
  An abstract machine that reads the model's code in one fixed order (definitions), and the first half of the proof that what it answers the model answers. No condition.
-/
import Derived.Recover
import Derived.Orders
import Derived.RowKit3
import Derived.KernelRfl
import Derived.Laws.Sem
import Derived.Laws.Cells
import Derived.Laws.IdiomCopy
import Derived.Laws.StructEq
import Derived.ChangeKeysEq
import Derived.Stop.IfaceNil
import Derived.Laws.Append
set_option linter.unusedVariables false
set_option linter.unusedSimpArgs false
/-! THE ABSTRACT MACHINE: a deterministic big-step reading of the model's code, in continuation style. -/
namespace Go.Abs

/-- A value, with names of its own for blocks of memory. -/
inductive AVal where
  | bool (b : Bool)
  | int (k : IntKind) (n : Int)
  | str (s : ByteArray)
  | ptr (a : Option (Nat × Nat))
  | slice (a : Option (Nat × Nat)) (len : Nat)
  | map (r : Option Nat)
  | func (fn : Fn) (first captured : List AVal)
  | nilFunc
  | iface (t : TypeId) (v : AVal)
  | nilIface
  | agg (cells : List AVal)
  | tuple (vs : List AVal)
  deriving Inhabited

abbrev AVal.undef : AVal := .tuple []

def AVal.cells : AVal → List AVal
  | .agg cs => cs
  | v => [v]

/-- one cell's value -/
def AVal.isCell : AVal → Bool
  | .agg _ | .tuple _ => false
  | _ => true

/-- a value that a variable can hold -/
def AVal.isData : AVal → Bool
  | .tuple _ => false
  | _ => true

def AVal.ofScalar : Value → Option AVal
  | .bool b => some (.bool b)
  | .int k n => some (.int k n)
  | .string s => some (.str s)
  | .pointer none => some (.ptr none)
  | .slice none 0 0 => some (.slice none 0)
  | .map none => some (.map none)
  | .nilFunc => some .nilFunc
  | .nilIface => some .nilIface
  | _ => none

def AVal.ofScalars : List Value → Option (List AVal)
  | [] => some []
  | v :: vs => match AVal.ofScalar v, AVal.ofScalars vs with
    | some a, some l => some (a :: l)
    | _, _ => none

def AVal.ofConst : Value → Option AVal
  | .agg cs => (AVal.ofScalars cs.toList).map .agg
  | .tuple cs => if cs.size = 0 then some (.tuple []) else none
  | v => AVal.ofScalar v

/-- What a temporary holds: a value; a variable of the call's own (its cells); an address inside such a variable. -/
inductive Slot where
  | val (v : AVal)
  | box (cells : List AVal)
  | ref (t : Nat) (off : Nat)
  | dead
  deriving Inhabited

inductive AObj where
  | cells (w : Nat) (cs : List AVal)
  | map (es : List (AVal × AVal))
  deriving Inhabited

/-- A finite map from numbers, as a tree. -/
inductive PT where
  | leaf
  | node (l : PT) (v : Option AObj) (r : PT)

def PT.get : PT → Nat → Option AObj
  | .leaf, _ => none
  | .node l v r, n => if n = 0 then v else if n % 2 = 1 then l.get (n / 2) else r.get (n / 2 - 1)

def PT.put : Nat → Nat → Option AObj → PT → PT
  | 0, _, _, t => t
  | f + 1, n, x, .leaf =>
    if n = 0 then .node .leaf x .leaf else if n % 2 = 1 then .node (PT.put f (n / 2) x .leaf) none .leaf else .node .leaf none (PT.put f (n / 2 - 1) x .leaf)
  | f + 1, n, x, .node l v r =>
    if n = 0 then .node l x r else if n % 2 = 1 then .node (PT.put f (n / 2) x l) v r else .node l v (PT.put f (n / 2 - 1) x r)

def PT.set (t : PT) (n : Nat) (x : Option AObj) : PT := PT.put (n + 1) n x t

theorem PT.get_put (x : Option AObj) : ∀ (f n : Nat) (t : PT) (m : Nat), n < f → (PT.put f n x t).get m = if m = n then x else t.get m := by
  intro f
  induction f with
  | zero => intro n t m h; omega
  | succ f ih =>
    intro n t m h
    cases t with
    | leaf =>
      simp only [PT.put]
      by_cases h0 : n = 0
      · subst h0; simp only [if_true, PT.get]
        by_cases m0 : m = 0
        · simp [m0]
        · simp only [m0, if_false]; split <;> rfl
      · simp only [h0, if_false]
        by_cases h1 : n % 2 = 1
        · simp only [h1, if_true, PT.get]
          by_cases m0 : m = 0
          · subst m0; rw [if_pos rfl, if_neg (by omega)]
          · rw [if_neg m0]
            by_cases m1 : m % 2 = 1
            · rw [if_pos m1, ih _ _ _ (by omega)]
              by_cases e : m = n
              · rw [if_pos e, if_pos (by omega)]
              · rw [if_neg e, if_neg (by omega)]; rfl
            · rw [if_neg m1, if_neg (by omega)]
        · simp only [h1, if_false, PT.get]
          by_cases m0 : m = 0
          · subst m0; rw [if_pos rfl, if_neg (by omega)]
          · rw [if_neg m0]
            by_cases m1 : m % 2 = 1
            · rw [if_pos m1, if_neg (by omega)]
            · rw [if_neg m1, ih _ _ _ (by omega)]
              by_cases e : m = n
              · rw [if_pos e, if_pos (by omega)]
              · rw [if_neg e, if_neg (by omega)]; rfl
    | node l v r =>
      simp only [PT.put]
      by_cases h0 : n = 0
      · subst h0; simp only [if_true, PT.get]
        by_cases m0 : m = 0
        · simp [m0]
        · simp only [m0, if_false]
      · simp only [h0, if_false]
        by_cases h1 : n % 2 = 1
        · simp only [h1, if_true, PT.get]
          by_cases m0 : m = 0
          · subst m0; rw [if_pos rfl, if_pos rfl, if_neg (by omega)]
          · rw [if_neg m0, if_neg m0]
            by_cases m1 : m % 2 = 1
            · rw [if_pos m1, if_pos m1, ih _ _ _ (by omega)]
              by_cases e : m = n
              · rw [if_pos e, if_pos (by omega)]
              · rw [if_neg e, if_neg (by omega)]
            · rw [if_neg m1, if_neg m1, if_neg (by omega)]
        · simp only [h1, if_false, PT.get]
          by_cases m0 : m = 0
          · subst m0; rw [if_pos rfl, if_pos rfl, if_neg (by omega)]
          · rw [if_neg m0, if_neg m0]
            by_cases m1 : m % 2 = 1
            · rw [if_pos m1, if_pos m1, if_neg (by omega)]
            · rw [if_neg m1, if_neg m1, ih _ _ _ (by omega)]
              by_cases e : m = n
              · rw [if_pos e, if_pos (by omega)]
              · rw [if_neg e, if_neg (by omega)]

theorem PT.get_set (t : PT) (n m : Nat) (x : Option AObj) : (t.set n x).get m = if m = n then x else t.get m :=
  PT.get_put x (n + 1) n t m (by omega)

end Go.Abs
namespace Go.Abs

structure St where
  heap : PT
  next : Nat
  lock : Nat → Bool

inductive Rec where
  | no
  | can (v : AVal)
  | cannot
  | done
  deriving Inhabited

structure Fr where
  slots : List Slot
  defers : List (FuncId × List AVal)
  esc : Nat
  rc : Rec

/-- How a piece of code is left. -/
inductive Ex where
  | normal
  | exit (id : Nat)
  | ret
  | panic (v : AVal)

structure Cfg where
  esc : FuncId → Nat
  pure : FuncId → Bool
  ext : FuncId → Option Nat

/-- the names below this number are the package variables' -/
def globMax : Nat := 64

def Slot.undef : Slot := .val .undef

def Fr.put (fr : Fr) (dst : Option Tmp) (s : Slot) : Fr :=
  match dst with
  | some d => { fr with slots := fr.slots.set d s }
  | none => fr

def Fr.ev (fr : Fr) : Operand → Option Slot
  | .tmp t => match fr.slots[t]? with
    | some (.box _) => some (.ref t 0)
    | s => s
  | .const v => match AVal.ofConst v with
    | some a => some (.val a)
    | none => none
  | .global g => if g < globMax then some (.val (.ptr (some (g, 0)))) else none
  | .func f => some (.val (.func (.func f) [] []))

def Fr.boxAt (fr : Fr) (t : Nat) : Option (List AVal) :=
  match fr.slots[t]? with
  | some (.box cs) => some cs
  | _ => none

/-- Addresses into the variable of slot d, of an elder round, are no more. -/
def inval (d : Nat) : List Slot → List Slot
  | [] => []
  | .ref t o :: r => (if t = d then .dead else .ref t o) :: inval d r
  | s :: r => s :: inval d r

def Fr.newBox (fr : Fr) (d : Nat) (cs : List AVal) : Fr := { fr with slots := (inval d fr.slots).set d (.box cs) }

def isAggD : TypeDesc → Bool
  | .struct _ | .array _ _ => true
  | _ => false

def aggT (P : Program) (t : TypeId) : Option Bool := (P.underlying t).map isAggD
def sizeT (P : Program) (t : TypeId) : Option Nat := (P.info? t).map (·.size)
def zeroT (P : Program) (t : TypeId) : Option (List AVal) :=
  match P.info? t with
  | some i => match i.zero with
    | some z => match AVal.ofConst z with
      | some a => match a.isData with
        | true => some a.cells
        | false => none
      | none => none
    | none => none
  | none => none
def zeroV (P : Program) (t : TypeId) : Option AVal :=
  match P.info? t with
  | some i => i.zero.bind AVal.ofConst
  | none => none

section prims
variable {α : Type}

def valK (s : Option Slot) (k : AVal → Option α) : Option α :=
  match s with
  | some (.val v) => k v
  | _ => none

def writeL (cs : List AVal) (off : Nat) (vs : List AVal) : List AVal := cs.take off ++ vs ++ cs.drop (off + vs.length)

def partK (isAgg : Bool) (cs : List AVal) (off size : Nat) (k : AVal → Option α) : Option α :=
  match isAgg with
  | true => if off + size ≤ cs.length then k (.agg ((cs.drop off).take size)) else none
  | false => match cs[off]? with
    | some v => k v
    | none => none

def putK (cs : List AVal) (off size : Nat) (v : AVal) (k : List AVal → Option α) : Option α :=
  if v.isData = true ∧ v.cells.length = size ∧ off + size ≤ cs.length then k (writeL cs off v.cells) else none

def St.set (σ : St) (n : Nat) (o : AObj) : St := { σ with heap := σ.heap.set n (some o) }
def St.del (σ : St) (n : Nat) : St := { σ with heap := σ.heap.set n none }
def St.new (σ : St) (o : AObj) : St := { σ with heap := σ.heap.set σ.next (some o), next := σ.next + 1 }
def St.get (σ : St) (n : Nat) : Option AObj := σ.heap.get n

def cellsK (σ : St) (n : Nat) (k : Nat → List AVal → Option α) : Option α :=
  match σ.get n with
  | some (.cells g cs) => k g cs
  | _ => none

def ldK (σ : St) (isAgg : Bool) (size : Nat) (p : AVal) (k : AVal → Option α) : Option α :=
  match p with
  | .ptr (some (n, o)) => cellsK σ n fun _ cs => partK isAgg cs o size k
  | _ => none

def stK (σ : St) (size : Nat) (p v : AVal) (k : St → Option α) : Option α :=
  match p with
  | .ptr (some (n, o)) => match σ.lock n with
    | true => none
    | false => cellsK σ n fun g cs => putK cs o size v fun cs' => k (σ.set n (.cells g cs'))
  | _ => none

def ncK (v : AVal) (k : Unit → Option α) : Option α :=
  match v with
  | .ptr none | .nilIface | .nilFunc | .func (.method _) _ _ => none
  | _ => k ()

def addK (p : AVal) (off : Nat) (k : AVal → Option α) : Option α :=
  match p with
  | .ptr (some (n, o)) => k (.ptr (some (n, o + off)))
  | _ => none

def extractK (v : AVal) (i : Nat) (k : AVal → Option α) : Option α :=
  match v with
  | .tuple vs => match vs[i]? with
    | some x => k x
    | none => none
  | _ => none

def pickK (c a b : AVal) (k : AVal → Option α) : Option α :=
  match c with
  | .bool true => k a
  | .bool false => k b
  | _ => none

def condK (c : AVal) (a b : Unit → Option α) : Option α :=
  match c with
  | .bool true => a ()
  | .bool false => b ()
  | _ => none

/-- arithmetic, bits, shifts, comparisons of integers -/
def intOp (op : BinOp) (k : IntKind) (x y : Int) : Option AVal :=
  match op with
  | .add => some (.int k (k.wrap (x + y)))
  | .sub => some (.int k (k.wrap (x - y)))
  | .mul => some (.int k (k.wrap (x * y)))
  | .quo => if y = 0 then none else some (.int k (k.wrap (x.tdiv y)))
  | .rem => if y = 0 then none else some (.int k (x.tmod y))
  | .and => some (.int k (k.wrap (BitVec.ofInt k.bits x &&& BitVec.ofInt k.bits y).toNat))
  | .or => some (.int k (k.wrap (BitVec.ofInt k.bits x ||| BitVec.ofInt k.bits y).toNat))
  | .xor => some (.int k (k.wrap (BitVec.ofInt k.bits x ^^^ BitVec.ofInt k.bits y).toNat))
  | .andNot => some (.int k (k.wrap (BitVec.ofInt k.bits x &&& ~~~BitVec.ofInt k.bits y).toNat))
  | .shl => if y < 0 then none else some (.int k (k.wrap (x * 2 ^ (min y.toNat k.bits))))
  | .shr => if y < 0 then none else some (.int k (x.fdiv (2 ^ (min y.toNat k.bits))))
  | .eql => some (.bool (x == y))
  | .neq => some (.bool (x != y))
  | .lss => some (.bool (x < y))
  | .leq => some (.bool (x ≤ y))
  | .gtr => some (.bool (x > y))
  | .geq => some (.bool (x ≥ y))

def isShift : BinOp → Bool
  | .shl | .shr => true
  | _ => false

inductive Kd where
  | bool
  | int (k : IntKind)
  | str
  deriving DecidableEq

/-- the cells of a struct's fields, one behind the other -/
def kindsGo (P : Program) (rec : TypeId → Option (List Kd)) (off : Nat) : List Field → Option (List Kd)
  | [] => some []
  | f :: fs => if f.name = "_" ∨ f.offset ≠ off then none else match rec f.type, sizeT P f.type, kindsGo P rec (off + (match sizeT P f.type with | some s => s | none => 0)) fs with
    | some a, some s, some b => if s = a.length then some (a ++ b) else none
    | _, _, _ => none

/-- The cells of a plain comparable type: bools, integers, strings, one behind the other. -/
def kinds (P : Program) : Nat → TypeId → Option (List Kd)
  | 0, _ => none
  | n + 1, t => match P.underlying t with
    | some .bool => some [.bool]
    | some (.int k) => some [.int k]
    | some .string => some [.str]
    | some (.struct fs) => if P.stoodInHeld t then none else kindsGo P (kinds P n) 0 fs.toList
    | some (.array len e) => match kinds P n e, sizeT P e with
      | some l, some s => if s = l.length then some (List.replicate len l).flatten else none
      | _, _ => none
    | _ => none

def eqKinds : List Kd → List AVal → List AVal → Option Bool
  | [], [], [] => some true
  | .bool :: ks, .bool a :: xs, .bool b :: ys => (eqKinds ks xs ys).map ((a == b) && ·)
  | .int _ :: ks, .int k a :: xs, .int k' b :: ys => if k = k' then (eqKinds ks xs ys).map ((a == b) && ·) else none
  | .str :: ks, .str a :: xs, .str b :: ys => (eqKinds ks xs ys).map ((a == b) && ·)
  | _, _, _ => none

/-- '==' of what is neither an integer nor a string -/
def eqV (P : Program) (t : TypeId) (cst : Bool) (v w : AVal) : Option Bool :=
  match v, w with
  | .bool a, .bool b => some (a == b)
  | .ptr none, .ptr b => some b.isNone
  | .ptr (some _), .ptr none => some false
  | .nilIface, .nilIface => if cst then some true else none
  | .nilIface, .iface _ _ => some false
  | .iface _ _, .nilIface => some false
  | .nilFunc, .nilFunc => some true
  | .nilFunc, .func _ _ _ => some false
  | .func _ _ _, .nilFunc => some false
  | .slice none _, .slice b _ => some b.isNone
  | .slice (some _) _, .slice none _ => some false
  | .map none, .map b => some b.isNone
  | .map (some _), .map none => some false
  | .agg xs, .agg ys => match P.eqGuardType P.depth t, aggT P t, kinds P 20 t with
    | false, some true, some ks => eqKinds ks xs ys
    | _, _, _ => none
  | _, _ => none

def shapeEq (P : Program) (t : TypeId) (v : AVal) : Bool :=
  match P.underlying t, v with
  | some .bool, .bool _ | some (.pointer _), .ptr _ | some (.interface _), .nilIface | some (.interface _), .iface _ _ | some (.func _ _ _), .nilFunc | some (.func _ _ _), .func _ _ _
  | some (.slice _), .slice _ _ | some (.map _ _), .map _ | some (.struct _), .agg _ | some (.array _ _), .agg _ => true
  | _, _ => false

def eqK (P : Program) (op : BinOp) (t : TypeId) (cst : Bool) (v w : AVal) (k : AVal → Option α) : Option α :=
  match shapeEq P t v && shapeEq P t w, op, eqV P t cst v w with
  | true, .eql, some b => k (.bool b)
  | true, .neq, some b => k (.bool (!b))
  | _, _, _ => none

def binK (P : Program) (op : BinOp) (t : TypeId) (cst : Bool) (v w : AVal) (k : AVal → Option α) : Option α :=
  match v, w with
  | .int kx x, .int ky y => match isShift op || decide (kx = ky), intOp op kx x y with
    | true, some r => k r
    | _, _ => none
  | .str a, .str b => match op with
    | .eql => k (.bool (a.data.toList == b.data.toList))
    | .neq => k (.bool (!(a.data.toList == b.data.toList)))
    | .add => if ((a.size + b.size : Nat) : Int) > IntKind.i64.max then none else k (.str (a ++ b))
    | .lss => k (.bool (Op.bytesLess a.data.toList b.data.toList))
    | .leq => k (.bool (Op.bytesLess a.data.toList b.data.toList || a.data.toList == b.data.toList))
    | .gtr => k (.bool (!(Op.bytesLess a.data.toList b.data.toList || a.data.toList == b.data.toList)))
    | .geq => k (.bool (!Op.bytesLess a.data.toList b.data.toList))
    | _ => none
  | v, w => eqK P op t cst v w k

def unK (op : UnOp) (v : AVal) (k : AVal → Option α) : Option α :=
  match op, v with
  | .neg, .int kd n => k (.int kd (kd.wrap (0 - n)))
  | .xor, .int kd n => k (.int kd (kd.wrap (BitVec.ofInt kd.bits (if kd.signed then -1 else kd.max) ^^^ BitVec.ofInt kd.bits n).toNat))
  | .not, .bool b => k (.bool !b)
  | _, _ => none

def convK (P : Program) (src dst : TypeId) (v : AVal) (k : AVal → Option α) : Option α :=
  match P.underlying src, P.underlying dst, v with
  | some _, some (.int kd), .int _ n => k (.int kd (kd.wrap n))
  | some _, some .string, .str s => k (.str s)
  | _, _, _ => none

def fillK (place : Nat → Option (Nat × Nat)) : List (Nat × AVal) → List AVal → (List AVal → Option α) → Option α
  | [], cs, k => k cs
  | (i, v) :: r, cs, k => match place i with
    | some (off, size) => putK cs off size v fun cs' => fillK place r cs' k
    | none => none

def allocK (σ : St) (o : AObj) (k : AVal → St → Option α) : Option α := k (.ptr (some (σ.next, 0))) (σ.new o)

/-- bounds of a slice -/
def boundK (v : Option AVal) (dflt hi : Nat) (k : Nat → Option α) : Option α :=
  match v with
  | none => k dflt
  | some (.int _ i) => if 0 ≤ i ∧ i ≤ hi then k i.toNat else none
  | _ => none

def sliceK (P : Program) (σ : St) (t : TypeId) (x : AVal) (lo hi : Option AVal) (k : AVal → Option α) : Option α :=
  match P.underlying t, x with
  | some .string, .str s => boundK hi s.size s.size fun h => boundK lo 0 h fun l => k (.str (s.extract l h))
  | some (.slice e), .slice a len => match sizeT P e with
    | some size => boundK hi len len fun h => match lo with
      | none => k (.slice a h)
      | some _ => boundK lo 0 h fun l => match a with
        | some (n, o) => cellsK σ n fun w _ => if w = 0 ∨ w = size then k (.slice (some (n, o + l * size)) (h - l)) else none
        | none => k (.slice none 0)
    | none => none
  | some (.array n e), .ptr (some (b, o)) => match sizeT P e with
    | some size => boundK hi n n fun h => boundK lo 0 h fun l => cellsK σ b fun w _ => if w = 0 then k (.slice (some (b, o + l * size)) (h - l)) else none
    | none => none
  | _, _ => none

def idxAddrK (P : Program) (t : TypeId) (x ix : AVal) (k : AVal → Option α) : Option α :=
  match P.underlying t, x, ix with
  | some (.array len e), .ptr (some (n, o)), .int _ i => match sizeT P e with
    | some size => if 0 ≤ i ∧ i < len then k (.ptr (some (n, o + i.toNat * size))) else none
    | none => none
  | some (.slice e), .slice (some (n, o)) len, .int _ i => match sizeT P e with
    | some size => if 0 ≤ i ∧ i < len then k (.ptr (some (n, o + i.toNat * size))) else none
    | none => none
  | _, _, _ => none

def idxK (P : Program) (t : TypeId) (x ix : AVal) (k : AVal → Option α) : Option α :=
  match P.underlying t, x, ix with
  | some (.array len e), .agg cs, .int _ i => match aggT P e, sizeT P e with
    | some g, some size => if 0 ≤ i ∧ i < len then partK g cs (i.toNat * size) size k else none
    | _, _ => none
  | some .string, .str s, .int _ i => if 0 ≤ i then match s[i.toNat]? with
      | some b => k (.int .u8 b.toNat)
      | none => none
    else none
  | _, _, _ => none

def lenK (P : Program) (t : TypeId) (x : AVal) (k : AVal → Option α) : Option α :=
  match P.underlying t, x with
  | some .string, .str s => k (.int .i64 s.size)
  | some (.array n _), _ => k (.int .i64 n)
  | some (.slice _), .slice _ n => k (.int .i64 n)
  | _, _ => none

def keyEq : AVal → AVal → Option Bool
  | .int k a, .int k' b => if k = k' then some (a == b) else none
  | .str a, .str b => some (a == b)
  | .bool a, .bool b => some (a == b)
  | _, _ => none

def findE (key : AVal) : List (AVal × AVal) → Option (Option AVal)
  | [] => some none
  | (x, v) :: r => match keyEq key x with
    | some true => some (some v)
    | some false => findE key r
    | none => none

def setE (key v : AVal) : List (AVal × AVal) → Option (List (AVal × AVal))
  | [] => some [(key, v)]
  | (x, u) :: r => match keyEq key x with
    | some true => some ((key, v) :: r)
    | some false => (setE key v r).map ((x, u) :: ·)
    | none => none

def keyT (P : Program) (t : TypeId) (key : AVal) : Bool :=
  match P.underlying t, key with
  | some (.int _), .int _ _ | some .string, .str _ | some .bool, .bool _ => true
  | _, _ => false

def lookupK (P : Program) (σ : St) (t : TypeId) (m key : AVal) (ok : Bool) (k : AVal → Option α) : Option α :=
  match P.underlying t, m with
  | some (.map kt et), .map (some r) => match σ.get r, keyT P kt key with
    | some (.map es), true => match findE key es with
      | some (some v) => k (if ok then .tuple [v, .bool true] else v)
      | some none => match zeroV P et with
        | some z => k (if ok then .tuple [z, .bool false] else z)
        | none => none
      | none => none
    | _, _ => none
  | _, _ => none

def mapSetK (P : Program) (σ : St) (t : TypeId) (m key v : AVal) (k : St → Option α) : Option α :=
  match P.underlying t, m with
  | some (.map kt _), .map (some r) => match σ.lock r, σ.get r, keyT P kt key with
    | false, some (.map es), true => match setE key v es with
      | some es' => k (σ.set r (.map es'))
      | none => none
    | _, _, _ => none
  | _, _ => none

def assertK (P : Program) (x : AVal) (asserted : TypeId) (commaOk : Bool) (k : AVal → Option α) : Option α :=
  match P.underlying asserted with
  | some (.interface _) | none => none
  | some _ => match x with
    | .iface t v => if t = asserted then k (if commaOk then .tuple [v, .bool true] else v)
      else match commaOk, zeroV P asserted with
        | true, some z => k (.tuple [z, .bool false])
        | _, _ => none
    | .nilIface => match commaOk, zeroV P asserted with
        | true, some z => k (.tuple [z, .bool false])
        | _, _ => none
    | _ => none

def mm (isMax : Bool) (k : IntKind) (x : Int) : List AVal → Option Int
  | [] => some x
  | .int k' y :: r => if k = k' then mm isMax k (if isMax then (if y > x then y else x) else (if y < x then y else x)) r else none
  | _ => none

def minmaxK (isMax : Bool) (l : List AVal) (c : AVal → Option α) : Option α :=
  match l with
  | .int k x :: r => match mm isMax k x r with
    | some z => c (.int k z)
    | none => none
  | _ => none

/-- the cells that an append brings -/
def newsK (σ : St) (size : Nat) (x : AVal) (k : Nat → List AVal → Option α) : Option α :=
  match x with
  | .slice none _ => k 0 []
  | .slice (some (n, o)) len => cellsK σ n fun _ cs => if o + len * size ≤ cs.length then k len ((cs.drop o).take (len * size)) else none
  | _ => none

def bytesT (P : Program) (t : TypeId) : Option Nat := (P.info? t).map (·.bytes)

def appendK (P : Program) (σ : St) (t : TypeId) (s x : AVal) (k : AVal → St → Option α) : Option α :=
  match P.underlying t, s with
  | some (.slice e), .slice a len => match sizeT P e, bytesT P e, zeroT P e with
    | some size, some bytes, some z => newsK σ size x fun m news =>
      if m = 0 then k s σ else
      if (len + m) * bytes ≤ 140737488355328 ∧ len + m ≤ 9223372036854775807 ∧ 0 < size ∧ z.length = size ∧ news.all AVal.isCell then
        match a with
        | none => k (.slice (some (σ.next, 0)) m) (σ.new (.cells size news))
        | some (n, o) => match σ.lock n with
          | true => none
          | false => cellsK σ n fun w cs => if w = size ∧ o + len * size ≤ cs.length then
                k (.slice (some (σ.next, 0)) (len + m)) ((σ.del n).new (.cells size ((cs.drop o).take (len * size) ++ news)))
              else none
      else none
    | _, _, _ => none
  | _, _ => none

def makeSliceK (P : Program) (σ : St) (t : TypeId) (l c : AVal) (k : AVal → St → Option α) : Option α :=
  match P.underlying t, l, c with
  | some (.slice e), .int .i64 n, .int .i64 m => match zeroT P e, sizeT P e, bytesT P e with
    | some z, some size, some bytes =>
      if n = m ∧ 0 ≤ n ∧ n.toNat * bytes ≤ 140737488355328 ∧ n ≤ 9223372036854775807 ∧ z.length = size ∧ 0 < size then
        k (.slice (some (σ.next, 0)) n.toNat) (σ.new (.cells size (List.replicate n.toNat z).flatten))
      else none
    | _, _, _ => none
  | _, _, _ => none

def clearK (P : Program) (σ : St) (t : TypeId) (x : AVal) (k : St → Option α) : Option α :=
  match P.underlying t, x with
  | some (.slice _), .slice none _ => k σ
  | some (.slice e), .slice (some (n, o)) len => match zeroT P e, sizeT P e with
    | some z, some size => if len = 0 then k σ else if z.length = size ∧ 0 < size then
        match σ.lock n with
        | true => none
        | false => cellsK σ n fun g cs => if o + len * size ≤ cs.length then k (σ.set n (.cells g (writeL cs o (List.replicate len z).flatten))) else none
      else none
    | _, _ => none
  | _, _ => none

end prims

def Fr.evs (fr : Fr) : List Operand → Option (List AVal)
  | [] => some []
  | x :: r => match fr.ev x, Fr.evs fr r with
    | some (.val v), some l => some (v :: l)
    | _, _ => none

def Fr.evOpt (fr : Fr) : Option Operand → Option (Option AVal)
  | none => some none
  | some x => match fr.ev x with
    | some (.val v) => some (some v)
    | _ => none

def Fr.evParts (fr : Fr) : List (Nat × Operand) → Option (List (Nat × AVal))
  | [] => some []
  | (i, x) :: r => match fr.ev x, Fr.evParts fr r with
    | some (.val v), some l => some ((i, v) :: l)
    | _, _ => none

def isConstO : Operand → Bool
  | .const _ => true
  | _ => false

def fieldPlaceOf (P : Program) (fs : Array Field) (i : Nat) : Option (Nat × Nat) :=
  match fs[i]? with
  | some f => (sizeT P f.type).map fun s => (f.offset, s)
  | none => none

/-- where a struct's field lies: its offset and its size (a field of no cells: none) -/
def placeT (P : Program) (t : TypeId) : Option (Nat → Option (Nat × Nat)) :=
  match P.underlying t with
  | some (.struct fs) => if fs.toList.all (fun f => (sizeT P f.type).isSome) then some (fieldPlaceOf P fs) else none
  | some (.array _ e) => (sizeT P e).map fun s => fun i => some (i * s, s)
  | _ => none

/-- the offset of a field that has cells -/
def fieldOff (P : Program) (t : TypeId) (i : Nat) : Option (Nat × TypeId × Nat) :=
  match P.underlying t with
  | some (.struct fs) => match fs[i]? with
    | some f => match sizeT P f.type with
      | some s => some (f.offset, f.type, s)
      | none => none
    | none => none
  | _ => none

mutual
/-- all names in a value are below a number -/
def AVal.old (b : Nat) : AVal → Bool
  | .ptr (some (n, _)) | .slice (some (n, _)) _ | .map (some n) => decide (n < b)
  | .func _ f c => AVal.olds b f && AVal.olds b c
  | .iface _ v => AVal.old b v
  | .agg l => AVal.olds b l
  | .tuple l => AVal.olds b l
  | _ => true
def AVal.olds (b : Nat) : List AVal → Bool
  | [] => true
  | v :: r => AVal.old b v && AVal.olds b r
end

end Go.Abs
namespace Go.Abs

/-! ### lists that are related, one by one -/

def All2 {α β : Type} (R : α → β → Prop) (l : List α) (m : List β) : Prop :=
  l.length = m.length ∧ ∀ (i : Nat) x y, l[i]? = some x → m[i]? = some y → R x y

section all2
variable {α β : Type} {R : α → β → Prop}

theorem All2.nil : All2 R [] [] := ⟨rfl, fun i x y h => by simp at h⟩

theorem All2.cons {x : α} {y : β} {l : List α} {m : List β} (h : R x y) (t : All2 R l m) : All2 R (x :: l) (y :: m) := by
  refine ⟨by simp [t.1], fun i a b ha hb => ?_⟩
  cases i with
  | zero => simp at ha hb; subst ha; subst hb; exact h
  | succ i => simp at ha hb; exact t.2 i a b ha hb

theorem All2.head {x : α} {y : β} {l : List α} {m : List β} (h : All2 R (x :: l) (y :: m)) : R x y := h.2 0 x y (by simp) (by simp)

theorem All2.tail {x : α} {y : β} {l : List α} {m : List β} (h : All2 R (x :: l) (y :: m)) : All2 R l m :=
  ⟨by simpa using h.1, fun i a b ha hb => h.2 (i + 1) a b (by simpa using ha) (by simpa using hb)⟩

theorem All2.nil_left {m : List β} (h : All2 R [] m) : m = [] := by have := h.1; simp at this; exact List.eq_nil_of_length_eq_zero this.symm

theorem All2.cons_left {x : α} {l : List α} {m : List β} (h : All2 R (x :: l) m) : ∃ y m', m = y :: m' ∧ R x y ∧ All2 R l m' := by
  cases m with
  | nil => have := h.1; simp at this
  | cons y m' => exact ⟨y, m', rfl, h.head, h.tail⟩

theorem All2.get {l : List α} {m : List β} (h : All2 R l m) {i : Nat} {x : α} (hx : l[i]? = some x) : ∃ y, m[i]? = some y ∧ R x y := by
  have hi : i < m.length := by rw [← h.1]; exact (List.getElem?_eq_some_iff.1 hx).1
  exact ⟨m[i], List.getElem?_eq_getElem hi, h.2 i x _ hx (List.getElem?_eq_getElem hi)⟩

theorem All2.append {l l' : List α} {m m' : List β} (h : All2 R l m) (h' : All2 R l' m') : All2 R (l ++ l') (m ++ m') := by
  refine ⟨by simp [h.1, h'.1], fun i x y hx hy => ?_⟩
  by_cases hi : i < l.length
  · rw [List.getElem?_append_left hi] at hx
    rw [List.getElem?_append_left (h.1 ▸ hi)] at hy
    exact h.2 i x y hx hy
  · rw [List.getElem?_append_right (by omega)] at hx
    rw [List.getElem?_append_right (by rw [← h.1]; omega), ← h.1] at hy
    exact h'.2 _ x y hx hy

theorem All2.take {l : List α} {m : List β} (h : All2 R l m) (n : Nat) : All2 R (l.take n) (m.take n) := by
  refine ⟨by simp [h.1], fun i x y hx hy => ?_⟩
  simp only [List.getElem?_take] at hx hy
  split at hx
  · rename_i hi; simp only [hi, if_true] at hy; exact h.2 i x y hx hy
  · simp at hx

theorem All2.drop {l : List α} {m : List β} (h : All2 R l m) (n : Nat) : All2 R (l.drop n) (m.drop n) := by
  refine ⟨by simp [h.1], fun i x y hx hy => ?_⟩
  simp only [List.getElem?_drop] at hx hy
  exact h.2 _ x y hx hy

theorem All2.set {l : List α} {m : List β} (h : All2 R l m) (n : Nat) {x : α} {y : β} (hxy : R x y) : All2 R (l.set n x) (m.set n y) := by
  refine ⟨by simp [h.1], fun i a b ha hb => ?_⟩
  simp only [List.getElem?_set] at ha hb
  by_cases e : n = i
  · subst e
    simp only [if_true] at ha hb
    split at ha <;> simp at ha
    split at hb <;> simp at hb
    subst ha; subst hb; exact hxy
  · simp only [e, if_false] at ha hb
    exact h.2 i a b ha hb

theorem All2.mono {S : α → β → Prop} {l : List α} {m : List β} (h : All2 R l m) (hs : ∀ x y, R x y → S x y) : All2 S l m :=
  ⟨h.1, fun i x y hx hy => hs _ _ (h.2 i x y hx hy)⟩

theorem All2.replicate {x : α} {y : β} (n : Nat) (h : R x y) : All2 R (List.replicate n x) (List.replicate n y) := by
  induction n with
  | zero => exact All2.nil
  | succ n ih => exact All2.cons h ih

theorem All2.flatten {l : List (List α)} {m : List (List β)} (h : All2 (All2 R) l m) : All2 R l.flatten m.flatten := by
  induction l generalizing m with
  | nil => rw [h.nil_left]; exact All2.nil
  | cons x l ih => obtain ⟨y, m', rfl, hy, ht⟩ := h.cons_left; simp only [List.flatten_cons]; exact hy.append (ih ht)

theorem All2.write {l l' : List α} {m m' : List β} (h : All2 R l m) (h' : All2 R l' m') (off : Nat) :
    All2 R (l.take off ++ l' ++ l.drop (off + l'.length)) (m.take off ++ m' ++ m.drop (off + m'.length)) := by
  rw [h'.1]
  exact ((h.take off).append h').append (h.drop _)
end all2

/-! ### where blocks lie -/

structure Place where
  block : Nat
  off : Nat
  room : Nat
  w : Nat

abbrev Ren := Nat → Place

inductive VRel (ρ : Ren) (N : Nat) : AVal → Value → Prop where
  | bool (b : Bool) : VRel ρ N (.bool b) (.bool b)
  | int (k : IntKind) (n : Int) : VRel ρ N (.int k n) (.int k n)
  | str (s : ByteArray) : VRel ρ N (.str s) (.string s)
  | nilptr : VRel ρ N (.ptr none) (.pointer none)
  | ptr {n : Nat} (o : Nat) (h : n < N) : VRel ρ N (.ptr (some (n, o))) (.pointer (some ⟨(ρ n).block, (ρ n).off + o, none⟩))
  | nilslice : VRel ρ N (.slice none 0) (.slice none 0 0)
  | slice {n : Nat} (o len cap : Nat) (h : n < N) (hl : len ≤ cap) (hr : (ρ n).w ≠ 0 → o + cap * (ρ n).w ≤ (ρ n).room) :
      VRel ρ N (.slice (some (n, o)) len) (.slice (some ⟨(ρ n).block, (ρ n).off + o, none⟩) len cap)
  | slice0 {n : Nat} (o : Nat) (a : Addr) (h : n < N) : VRel ρ N (.slice (some (n, o)) 0) (.slice (some a) 0 0)
  | nilmap : VRel ρ N (.map none) (.map none)
  | map {n : Nat} (h : n < N) : VRel ρ N (.map (some n)) (.map (some (ρ n).block))
  | func (fn : Fn) {f c : List AVal} {f' c' : Array Value} (hf : f.length = f'.size) (hc : c.length = c'.size)
      (h1 : ∀ (i : Nat) x y, f[i]? = some x → f'[i]? = some y → VRel ρ N x y) (h2 : ∀ (i : Nat) x y, c[i]? = some x → c'[i]? = some y → VRel ρ N x y) :
      VRel ρ N (.func fn f c) (.func fn f' c')
  | nilFunc : VRel ρ N .nilFunc .nilFunc
  | iface (t : TypeId) {v : AVal} {v' : Value} (h : VRel ρ N v v') : VRel ρ N (.iface t v) (.iface t v')
  | nilIface : VRel ρ N .nilIface .nilIface
  | agg {l : List AVal} {a : Array Value} (hl : l.length = a.size) (h1 : ∀ x ∈ l, x.isCell = true)
      (h : ∀ (i : Nat) x y, l[i]? = some x → a[i]? = some y → VRel ρ N x y) : VRel ρ N (.agg l) (.agg a)
  | tuple {l : List AVal} {a : Array Value} (hl : l.length = a.size) (h : ∀ (i : Nat) x y, l[i]? = some x → a[i]? = some y → VRel ρ N x y) :
      VRel ρ N (.tuple l) (.tuple a)

abbrev LRel (ρ : Ren) (N : Nat) : List AVal → List Value → Prop := All2 (VRel ρ N)

theorem LRel.of_array {ρ : Ren} {N : Nat} {l : List AVal} {a : Array Value} (hl : l.length = a.size)
    (h : ∀ (i : Nat) x y, l[i]? = some x → a[i]? = some y → VRel ρ N x y) : LRel ρ N l a.toList :=
  ⟨by simpa using hl, fun i x y hx hy => h i x y hx (by simpa using hy)⟩

theorem VRel.agg' {ρ : Ren} {N : Nat} {l : List AVal} {a : List Value} (h1 : ∀ x ∈ l, x.isCell = true) (h : LRel ρ N l a) : VRel ρ N (.agg l) (.agg a.toArray) :=
  .agg (by simpa using h.1) h1 fun i x y hx hy => h.2 i x y hx (by simpa using hy)

theorem VRel.tuple' {ρ : Ren} {N : Nat} {l : List AVal} {a : List Value} (h : LRel ρ N l a) : VRel ρ N (.tuple l) (.tuple a.toArray) :=
  .tuple (by simpa using h.1) fun i x y hx hy => h.2 i x y hx (by simpa using hy)

theorem VRel.func' {ρ : Ren} {N : Nat} (fn : Fn) {f c : List AVal} {f' c' : List Value} (hf : LRel ρ N f f') (hc : LRel ρ N c c') :
    VRel ρ N (.func fn f c) (.func fn f'.toArray c'.toArray) :=
  .func fn (by simpa using hf.1) (by simpa using hc.1) (fun i x y hx hy => hf.2 i x y hx (by simpa using hy)) (fun i x y hx hy => hc.2 i x y hx (by simpa using hy))

theorem VRel.undef {ρ : Ren} {N : Nat} : VRel ρ N .undef Go.undef := .tuple rfl fun i x y hx _ => by simp at hx

theorem VRel.mono {ρ ρ' : Ren} {N N' : Nat} (hN : N ≤ N') (he : ∀ n, n < N → ρ' n = ρ n) {a : AVal} {v : Value} (h : VRel ρ N a v) : VRel ρ' N' a v := by
  induction h with
  | bool b => exact .bool b
  | int k n => exact .int k n
  | str s => exact .str s
  | nilptr => exact .nilptr
  | ptr o h => rw [← he _ h]; exact .ptr o (by omega)
  | nilslice => exact .nilslice
  | slice o len cap h hl hr => rw [← he _ h] at hr ⊢; exact .slice o len cap (by omega) hl hr
  | slice0 o a h => exact .slice0 o a (by omega)
  | nilmap => exact .nilmap
  | map h => rw [← he _ h]; exact .map (by omega)
  | func fn hf hc h1 h2 i1 i2 => exact .func fn hf hc (fun i x y hx hy => i1 i x y hx hy) (fun i x y hx hy => i2 i x y hx hy)
  | nilFunc => exact .nilFunc
  | iface t h ih => exact .iface t ih
  | nilIface => exact .nilIface
  | agg hl h1 h ih => exact .agg hl h1 fun i x y hx hy => ih i x y hx hy
  | tuple hl h ih => exact .tuple hl fun i x y hx hy => ih i x y hx hy

theorem LRel.mono' {ρ ρ' : Ren} {N N' : Nat} (hN : N ≤ N') (he : ∀ n, n < N → ρ' n = ρ n) {a : List AVal} {v : List Value} (h : LRel ρ N a v) : LRel ρ' N' a v :=
  All2.mono h fun _ _ hx => hx.mono hN he

/-- a value all of whose names are old is related below the old number -/
theorem VRel.of_old {ρ : Ren} {N b : Nat} {a : AVal} {v : Value} (h : VRel ρ N a v) (ho : a.old b = true) : VRel ρ b a v := by
  have olds : ∀ (l : List AVal) (i : Nat) (x : AVal), AVal.olds b l = true → l[i]? = some x → x.old b = true := by
    intro l
    induction l with
    | nil => intro i x _ hx; simp at hx
    | cons y l ih =>
      intro i x hl hx
      simp only [AVal.olds, Bool.and_eq_true] at hl
      cases i with
      | zero => simp at hx; subst hx; exact hl.1
      | succ i => exact ih i x hl.2 (by simpa using hx)
  induction h with
  | bool b => exact .bool b
  | int k n => exact .int k n
  | str s => exact .str s
  | nilptr => exact .nilptr
  | ptr o h => exact .ptr o (by simpa [AVal.old] using ho)
  | nilslice => exact .nilslice
  | slice o len cap h hl hr => exact .slice o len cap (by simpa [AVal.old] using ho) hl hr
  | slice0 o a h => exact .slice0 o a (by simpa [AVal.old] using ho)
  | nilmap => exact .nilmap
  | map h => exact .map (by simpa [AVal.old] using ho)
  | func fn hf hc h1 h2 i1 i2 =>
    simp only [AVal.old, Bool.and_eq_true] at ho
    exact .func fn hf hc (fun i x y hx hy => i1 i x y hx hy (olds _ _ _ ho.1 hx)) (fun i x y hx hy => i2 i x y hx hy (olds _ _ _ ho.2 hx))
  | nilFunc => exact .nilFunc
  | iface t h ih => exact .iface t (ih (by simpa [AVal.old] using ho))
  | nilIface => exact .nilIface
  | agg hl h1 h ih => exact .agg hl h1 fun i x y hx hy => ih i x y hx hy (olds _ _ _ (by simpa [AVal.old] using ho) hx)
  | tuple hl h ih => exact .tuple hl fun i x y hx hy => ih i x y hx hy (olds _ _ _ (by simpa [AVal.old] using ho) hx)

theorem VRel.cell {ρ : Ren} {N : Nat} {a : AVal} {v : Value} (h : VRel ρ N a v) (hc : a.isCell = true) : v.oneCell' = true := by
  cases h <;> simp_all [AVal.isCell, Value.oneCell']

theorem VRel.cells {ρ : Ren} {N : Nat} {a : AVal} {v : Value} (h : VRel ρ N a v) (hd : a.isData = true) :
    LRel ρ N a.cells v.cells.toList ∧ ∀ x ∈ a.cells, x.isCell = true := by
  cases h with
  | agg hl h1 h => exact ⟨LRel.of_array hl h, h1⟩
  | tuple hl h => simp [AVal.isData] at hd
  | bool b => exact ⟨All2.cons (.bool b) All2.nil, by simp [AVal.cells, AVal.isCell]⟩
  | int k n => exact ⟨All2.cons (.int k n) All2.nil, by simp [AVal.cells, AVal.isCell]⟩
  | str s => exact ⟨All2.cons (.str s) All2.nil, by simp [AVal.cells, AVal.isCell]⟩
  | nilptr => exact ⟨All2.cons .nilptr All2.nil, by simp [AVal.cells, AVal.isCell]⟩
  | ptr o h => exact ⟨All2.cons (.ptr o h) All2.nil, by simp [AVal.cells, AVal.isCell]⟩
  | nilslice => exact ⟨All2.cons .nilslice All2.nil, by simp [AVal.cells, AVal.isCell]⟩
  | slice o len cap h hl hr => exact ⟨All2.cons (.slice o len cap h hl hr) All2.nil, by simp [AVal.cells, AVal.isCell]⟩
  | slice0 o a h => exact ⟨All2.cons (.slice0 o a h) All2.nil, by simp [AVal.cells, AVal.isCell]⟩
  | nilmap => exact ⟨All2.cons .nilmap All2.nil, by simp [AVal.cells, AVal.isCell]⟩
  | map h => exact ⟨All2.cons (.map h) All2.nil, by simp [AVal.cells, AVal.isCell]⟩
  | func fn hf hc h1 h2 => exact ⟨All2.cons (.func fn hf hc h1 h2) All2.nil, by simp [AVal.cells, AVal.isCell]⟩
  | nilFunc => exact ⟨All2.cons .nilFunc All2.nil, by simp [AVal.cells, AVal.isCell]⟩
  | iface t h => exact ⟨All2.cons (.iface t h) All2.nil, by simp [AVal.cells, AVal.isCell]⟩
  | nilIface => exact ⟨All2.cons .nilIface All2.nil, by simp [AVal.cells, AVal.isCell]⟩

theorem VRel.of_scalar {ρ : Ren} {N : Nat} {v : Value} {a : AVal} (h : AVal.ofScalar v = some a) : VRel ρ N a v ∧ a.isCell = true := by
  cases v <;> simp [AVal.ofScalar] at h
  case bool b => subst h; exact ⟨.bool b, rfl⟩
  case int k n => subst h; exact ⟨.int k n, rfl⟩
  case string s => subst h; exact ⟨.str s, rfl⟩
  case pointer p => cases p <;> simp at h; subst h; exact ⟨.nilptr, rfl⟩
  case slice p l c =>
    cases p with
    | some x => simp at h
    | none =>
      cases l with
      | succ l => simp at h
      | zero => cases c with
        | succ c => simp at h
        | zero => simp at h; subst h; exact ⟨.nilslice, rfl⟩
  case map p => cases p <;> simp at h; subst h; exact ⟨.nilmap, rfl⟩
  case nilFunc => subst h; exact ⟨.nilFunc, rfl⟩
  case nilIface => subst h; exact ⟨.nilIface, rfl⟩

theorem LRel.of_scalars {ρ : Ren} {N : Nat} : ∀ {v : List Value} {a : List AVal}, AVal.ofScalars v = some a → LRel ρ N a v ∧ ∀ x ∈ a, x.isCell = true := by
  intro v
  induction v with
  | nil => intro a h; simp [AVal.ofScalars] at h; subst h; exact ⟨All2.nil, by simp⟩
  | cons x v ih =>
    intro a h
    simp only [AVal.ofScalars] at h
    split at h
    · rename_i y l hy hl
      simp at h; subst h
      obtain ⟨h1, h2⟩ := VRel.of_scalar (ρ := ρ) (N := N) hy
      obtain ⟨h3, h4⟩ := ih hl
      exact ⟨All2.cons h1 h3, by simpa [h2] using h4⟩
    · simp at h

theorem VRel.of_const {ρ : Ren} {N : Nat} {v : Value} {a : AVal} (h : AVal.ofConst v = some a) : VRel ρ N a v := by
  cases v with
  | agg cs =>
    simp only [AVal.ofConst, Option.map_eq_some_iff] at h
    obtain ⟨l, hl, rfl⟩ := h
    obtain ⟨h1, h2⟩ := LRel.of_scalars (ρ := ρ) (N := N) hl
    have := VRel.agg' h2 h1
    simpa using this
  | tuple cs =>
    simp only [AVal.ofConst] at h
    split at h <;> simp at h
    rename_i hz
    subst h
    obtain rfl : cs = #[] := Array.eq_empty_of_size_eq_zero hz
    exact VRel.undef
  | _ => exact (VRel.of_scalar (by simpa [AVal.ofConst] using h)).1

/-- the cells of a data constant -/
theorem VRel.const_cells {ρ : Ren} {N : Nat} {v : Value} {l : List AVal} (h : (AVal.ofConst v).map AVal.cells = some l) :
    LRel ρ N l v.cells.toList ∧ (∀ x ∈ l, x.isCell = true) ∨ v = .tuple #[] := by
  simp only [Option.map_eq_some_iff] at h
  obtain ⟨a, ha, rfl⟩ := h
  by_cases hd : a.isData = true
  · exact .inl ((VRel.of_const ha).cells hd)
  · right
    cases v with
    | tuple cs =>
      simp only [AVal.ofConst] at ha
      split at ha <;> simp at ha
      rename_i hz
      rw [Array.eq_empty_of_size_eq_zero hz]
    | agg cs => simp only [AVal.ofConst, Option.map_eq_some_iff] at ha; obtain ⟨l, _, rfl⟩ := ha; simp [AVal.isData] at hd
    | _ =>
      have := (VRel.of_scalar (ρ := ρ) (N := N) (by simpa [AVal.ofConst] using ha)).2
      exfalso; apply hd; cases a <;> simp_all [AVal.isCell, AVal.isData]

end Go.Abs
namespace Go.Abs

theorem getElem?_of_lt {α : Type} {l : List α} {i : Nat} (h : i < l.length) : ∃ x, l[i]? = some x := ⟨l[i], List.getElem?_eq_getElem h⟩

/-! ### the concrete heap -/

theorem cell?_of {w : World} {b : Nat} {c : Array Value} {el : TypeId} {fz : Nat × Nat} (h : w.heap[b]? = some (.cells c el fz)) (o : Nat) :
    w.cell? ⟨b, o, none⟩ = c[o]? := by simp [World.cell?, h]

theorem frozen?_of {w : World} {b : Nat} {c : Array Value} {el : TypeId} {fz : Nat × Nat} (h : w.heap[b]? = some (.cells c el fz)) {o : Nat} (hf : ¬ (fz.1 ≤ o ∧ o < fz.2)) :
    w.frozen? ⟨b, o, none⟩ = false := by
  obtain ⟨lo, hi⟩ := fz
  simp only [World.frozen?, h]
  simp only [Bool.and_eq_false_iff, decide_eq_false_iff_not]
  simp only at hf
  omega

theorem heap_setCell {w : World} {b : Nat} {c : Array Value} {el : TypeId} {fz : Nat × Nat} (h : w.heap[b]? = some (.cells c el fz)) (o : Nat) (v : Value) (b' : Nat) :
    (w.setCell ⟨b, o, none⟩ v).heap[b']? = if b' = b then some (.cells (c.setIfInBounds o v) el fz) else w.heap[b']? := by
  simp only [World.setCell, Array.getElem?_modify]
  by_cases e : b = b'
  · subst e; simp [h]
  · rw [if_neg e, if_neg (fun h => e h.symm)]

theorem setCell_size (w : World) (a : Addr) (v : Value) : (w.setCell a v).heap.size = w.heap.size := by simp [World.setCell]

theorem getElem?_writeL {α : Type} (cs : List α) (off : Nat) (vs : List α) (h : off + vs.length ≤ cs.length) (i : Nat) :
    (cs.take off ++ vs ++ cs.drop (off + vs.length))[i]? = if off ≤ i ∧ i < off + vs.length then vs[i - off]? else cs[i]? := by
  simp only [List.append_assoc, List.getElem?_append, List.length_take, List.getElem?_take, List.getElem?_drop]
  have e : min off cs.length = off := by omega
  rw [e]
  by_cases h1 : i < off
  · rw [if_pos h1, if_pos h1, if_neg (by omega)]
  · rw [if_neg h1]
    by_cases h2 : i - off < vs.length
    · rw [if_pos h2, if_pos (by omega)]
    · rw [if_neg h2, if_neg (by omega)]
      congr 1; omega

theorem heap_setCells {b : Nat} {el : TypeId} {fz : Nat × Nat} : ∀ (vs : List Value) (o : Nat) (w : World) (c : Array Value), w.heap[b]? = some (.cells c el fz) → o + vs.length ≤ c.size →
    ∃ c' : Array Value, c'.toList = c.toList.take o ++ vs ++ c.toList.drop (o + vs.length) ∧
      ∀ b', (w.setCells b o vs).heap[b']? = if b' = b then some (.cells c' el fz) else w.heap[b']? := by
  intro vs
  induction vs with
  | nil => intro o w c h _; exact ⟨c, by simp, fun b' => by simp only [World.setCells]; split <;> simp_all⟩
  | cons v vs ih =>
    intro o w c h hle
    have h1 := heap_setCell h o v
    have h2 : (w.setCell ⟨b, o, none⟩ v).heap[b]? = some (.cells (c.setIfInBounds o v) el fz) := by rw [h1]; simp
    simp only [List.length_cons] at hle
    obtain ⟨c', hc', hh⟩ := ih (o + 1) _ _ h2 (by simp; omega)
    refine ⟨c', ?_, fun b' => ?_⟩
    · rw [hc']
      apply List.ext_getElem?
      intro i
      rw [getElem?_writeL _ _ _ (by simp; omega)]
      have := getElem?_writeL c.toList o (v :: vs) (by simp; omega) i
      simp only [List.length_cons] at this ⊢
      rw [this]
      by_cases i2 : i = o
      · subst i2
        rw [if_neg (by omega), if_pos (by omega)]
        simp only [Array.toList_setIfInBounds, List.getElem?_set, Array.length_toList, if_true, Nat.sub_self, List.getElem?_cons_zero]
        rw [if_pos (by omega)]
      · by_cases i3 : o + 1 ≤ i ∧ i < o + 1 + vs.length
        · rw [if_pos i3, if_pos (by omega), show i - o = (i - (o + 1)) + 1 by omega, List.getElem?_cons_succ]
        · rw [if_neg i3, if_neg (by omega)]
          simp only [Array.toList_setIfInBounds, List.getElem?_set]
          rw [if_neg (fun e => i2 e.symm)]
    · simp only [World.setCells]
      rw [hh]
      split
      · rfl
      · rename_i hb; rw [h1, if_neg hb]

theorem setCells_rest (b : Nat) : ∀ (vs : List Value) (o : Nat) (w : World), (w.setCells b o vs).os = w.os ∧ (w.setCells b o vs).tape = w.tape ∧ (w.setCells b o vs).output = w.output ∧ (w.setCells b o vs).heap.size = w.heap.size := by
  intro vs
  induction vs with
  | nil => intro o w; exact ⟨rfl, rfl, rfl, rfl⟩
  | cons v vs ih =>
    intro o w
    obtain ⟨h1, h2, h3, h4⟩ := ih (o + 1) (w.setCell ⟨b, o, none⟩ v)
    exact ⟨h1, h2, h3, h4.trans (setCell_size _ _ _)⟩

/-! ### the relation of heaps -/

def Place.disj (p q : Place) : Prop := p.block ≠ q.block ∨ p.off + p.room ≤ q.off ∨ q.off + q.room ≤ p.off

theorem Place.disj.symm {p q : Place} (h : p.disj q) : q.disj p := by unfold Place.disj at *; omega

def ORel (ρ : Ren) (N : Nat) (p : Place) (o : AObj) (w : World) : Prop :=
  match o with
  | .cells wd cs => p.w = wd ∧ cs.length ≤ p.room ∧ (∀ x ∈ cs, x.isCell = true) ∧ ∃ c el fz, w.heap[p.block]? = some (.cells c el fz) ∧ p.off + p.room ≤ c.size ∧
      (∀ (i : Nat) x, cs[i]? = some x → ∃ v, c[p.off + i]? = some v ∧ VRel ρ N x v) ∧ ∀ j, p.off ≤ j → j < p.off + p.room → ¬ (fz.1 ≤ j ∧ j < fz.2)
  | .map es => p.off = 0 ∧ p.room = 1 ∧ ∃ es' clk, w.heap[p.block]? = some (.map es' clk) ∧ All2 (fun (e : AVal × AVal) (e' : MapEntry) => VRel ρ N e.1 e'.key ∧ VRel ρ N e.2 e'.val) es es'.toList

theorem ORel.lt {ρ : Ren} {N : Nat} {p : Place} {o : AObj} {w : World} (h : ORel ρ N p o w) : p.block < w.heap.size := by
  cases o with
  | cells wd cs => obtain ⟨_, _, _, c, el, fz, hb, _⟩ := h; exact (Array.getElem?_eq_some_iff.1 hb).1
  | map es => obtain ⟨_, _, es', clk, hb, _⟩ := h; exact (Array.getElem?_eq_some_iff.1 hb).1

theorem ORel.mono {ρ ρ' : Ren} {N N' : Nat} {p : Place} {o : AObj} {w w' : World} (h : ORel ρ N p o w) (hN : N ≤ N') (he : ∀ n, n < N → ρ' n = ρ n)
    (hb : w'.heap[p.block]? = w.heap[p.block]?) : ORel ρ' N' p o w' := by
  cases o with
  | cells wd cs =>
    obtain ⟨h1, h2, h3, c, el, fz, h4, h5, h6, h7⟩ := h
    exact ⟨h1, h2, h3, c, el, fz, hb ▸ h4, h5, fun i x hx => let ⟨v, hv, hr⟩ := h6 i x hx; ⟨v, hv, hr.mono hN he⟩, h7⟩
  | map es =>
    obtain ⟨h1, h2, es', clk, h4, h5⟩ := h
    exact ⟨h1, h2, es', clk, hb ▸ h4, h5.mono fun x y hx => ⟨hx.1.mono hN he, hx.2.mono hN he⟩⟩

structure SRel (B : Nat → Bool) (ρ : Ren) (σ : St) (w : World) : Prop where
  obj : ∀ n o, σ.get n = some o → n < σ.next ∧ ORel ρ σ.next (ρ n) o w
  dis : ∀ n m o o', σ.get n = some o → σ.get m = some o' → n ≠ m → (B n = false ∨ B m = false) → (ρ n).disj (ρ m)
  lock : ∀ n, B n = true → σ.lock n = true
  glob : ∀ g, g < globMax → g < σ.next ∧ (ρ g).block = g ∧ (ρ g).off = 0

def Own (ρ : Ren) (σ : St) (b : Nat) : Prop := ∃ n o, σ.get n = some o ∧ σ.lock n = false ∧ (ρ n).block = b
def OwnAll (ρ : Ren) (σ : St) (b : Nat) : Prop := ∃ n o, σ.get n = some o ∧ (ρ n).block = b

theorem Own.all {ρ : Ren} {σ : St} {b : Nat} : Own ρ σ b → OwnAll ρ σ b := fun ⟨n, o, h, _, hb⟩ => ⟨n, o, h, hb⟩

/-- from (ρ, σ, w) to (ρ', σ', w'): what a call may do. -/
structure Step (ρ : Ren) (σ : St) (w : World) (ρ' : Ren) (σ' : St) (w' : World) : Prop where
  next : σ.next ≤ σ'.next
  ren : ∀ n, n < σ.next → ρ' n = ρ n
  lock : σ'.lock = σ.lock
  keep : ∀ n, n < σ.next → σ.lock n = true → σ'.get n = σ.get n
  os : w'.os = w.os
  tape : w'.tape = w.tape
  output : w'.output = w.output
  size : w.heap.size ≤ w'.heap.size
  frame : ∀ b, b < w.heap.size → ¬ Own ρ σ b → w'.heap[b]? = w.heap[b]?
  own : ∀ b, Own ρ' σ' b → w.heap.size ≤ b ∨ Own ρ σ b
  ownAll : ∀ b, OwnAll ρ' σ' b → w.heap.size ≤ b ∨ OwnAll ρ σ b

theorem Step.refl (ρ : Ren) (σ : St) (w : World) : Step ρ σ w ρ σ w :=
  ⟨Nat.le_refl _, fun _ _ => rfl, rfl, fun _ _ _ => rfl, rfl, rfl, rfl, Nat.le_refl _, fun _ _ _ => rfl, fun _ h => .inr h, fun _ h => .inr h⟩

theorem Step.trans {ρ ρ1 ρ2 : Ren} {σ σ1 σ2 : St} {w w1 w2 : World} (h : Step ρ σ w ρ1 σ1 w1) (k : Step ρ1 σ1 w1 ρ2 σ2 w2) : Step ρ σ w ρ2 σ2 w2 where
  next := Nat.le_trans h.next k.next
  ren n hn := (k.ren n (by have := h.next; omega)).trans (h.ren n hn)
  lock := k.lock.trans h.lock
  keep n hn hl := (k.keep n (by have := h.next; omega) (by rw [h.lock]; exact hl)).trans (h.keep n hn hl)
  os := k.os.trans h.os
  tape := k.tape.trans h.tape
  output := k.output.trans h.output
  size := Nat.le_trans h.size k.size
  frame b hb ho := (k.frame b (by have := h.size; omega) (fun hc => by rcases h.own b hc with h1 | h1 <;> first | omega | exact ho h1)).trans (h.frame b hb ho)
  own b hb := by
    rcases k.own b hb with h1 | h1
    · exact .inl (Nat.le_trans h.size h1)
    · exact h.own b h1
  ownAll b hb := by
    rcases k.ownAll b hb with h1 | h1
    · exact .inl (Nat.le_trans h.size h1)
    · exact h.ownAll b h1

/-- a draw changes nothing of what is related -/
theorem SRel.world {B : Nat → Bool} {ρ : Ren} {σ : St} {w w' : World} (h : SRel B ρ σ w) (hh : w'.heap = w.heap) : SRel B ρ σ w' :=
  ⟨fun n o hn => ⟨(h.obj n o hn).1, (h.obj n o hn).2.mono (Nat.le_refl _) (fun _ _ => rfl) (by rw [hh])⟩, h.dis, h.lock, h.glob⟩

theorem Step.world {ρ ρ' : Ren} {σ σ' : St} {w w' w'' : World} (h : Step ρ σ w ρ' σ' w') (hh : w''.heap = w'.heap) (h1 : w''.os = w'.os) (h2 : w''.tape = w'.tape) (h3 : w''.output = w'.output) :
    Step ρ σ w ρ' σ' w'' :=
  ⟨h.next, h.ren, h.lock, h.keep, h1.trans h.os, h2.trans h.tape, h3.trans h.output, by rw [hh]; exact h.size, fun b hb ho => by rw [hh]; exact h.frame b hb ho, h.own, h.ownAll⟩

theorem St.get_set (σ : St) (n m : Nat) (o : AObj) : (σ.set n o).get m = if m = n then some o else σ.get m := PT.get_set _ _ _ _
theorem St.get_new (σ : St) (o : AObj) (m : Nat) : (σ.new o).get m = if m = σ.next then some o else σ.get m := PT.get_set _ _ _ _
theorem St.get_del (σ : St) (n m : Nat) : (σ.del n).get m = if m = n then none else σ.get m := PT.get_set _ _ _ _

/-- a block more, that is related -/
theorem SRel.newAt {B : Nat → Bool} {ρ : Ren} {σ : St} {w w' : World} (h : SRel B ρ σ w) (p : Place) (o : AObj)
    (hold : ∀ b, b < w.heap.size → w'.heap[b]? = w.heap[b]?) (hsz : w.heap.size ≤ w'.heap.size) (hp : w.heap.size ≤ p.block)
    (ho : ORel ρ σ.next p o w') (hos : w'.os = w.os) (ht : w'.tape = w.tape) (hou : w'.output = w.output) :
    ∃ ρ', ρ' σ.next = p ∧ SRel B ρ' (σ.new o) w' ∧ Step ρ σ w ρ' (σ.new o) w' := by
  let ρ' : Ren := fun n => if n = σ.next then p else ρ n
  have hren : ∀ n, n < σ.next → ρ' n = ρ n := fun n hn => if_neg (by omega)
  have hnx : ρ' σ.next = p := if_pos rfl
  refine ⟨ρ', hnx, ⟨fun n x hn => ?_, fun n m x x' hn hm hnm hB => ?_, h.lock, fun g hg => ?_⟩, ?_⟩
  · rw [St.get_new] at hn
    split at hn
    · rename_i e; subst e; simp at hn; subst hn
      refine ⟨by simp [St.new], ?_⟩
      rw [hnx]
      exact ho.mono (by simp [St.new]) hren rfl
    · have := h.obj n x hn
      refine ⟨by simp [St.new]; omega, ?_⟩
      rw [hren n this.1]
      exact this.2.mono (by simp [St.new]) hren (hold _ this.2.lt)
  · rw [St.get_new] at hn hm
    split at hn
    · rename_i e; subst e
      rw [if_neg (fun e => hnm e.symm)] at hm
      have := h.obj m x' hm
      have hl := this.2.lt
      rw [hnx, hren m this.1]
      left; omega
    · have hn' := h.obj n x hn
      split at hm
      · rename_i e; subst e
        have hl := hn'.2.lt
        rw [hnx, hren n hn'.1]
        left; omega
      · have hm' := h.obj m x' hm
        rw [hren n hn'.1, hren m hm'.1]
        exact h.dis n m x x' hn hm hnm hB
  · obtain ⟨g1, g2, g3⟩ := h.glob g hg
    exact ⟨by simp [St.new]; omega, by rw [hren g g1]; exact g2, by rw [hren g g1]; exact g3⟩
  · refine ⟨by simp [St.new], hren, rfl, fun n hn _ => ?_, hos, ht, hou, hsz, fun b hb _ => hold b hb, fun b hb => ?_, fun b hb => ?_⟩
    · rw [St.get_new, if_neg (by omega)]
    · obtain ⟨n, x, hn, hl, hb⟩ := hb
      rw [St.get_new] at hn
      split at hn
      · rename_i e; subst e; rw [hnx] at hb; left; omega
      · right; exact ⟨n, x, hn, hl, by rw [← hren n (h.obj n x hn).1]; exact hb⟩
    · obtain ⟨n, x, hn, hb⟩ := hb
      rw [St.get_new] at hn
      split at hn
      · rename_i e; subst e; rw [hnx] at hb; left; omega
      · right; exact ⟨n, x, hn, by rw [← hren n (h.obj n x hn).1]; exact hb⟩

theorem SRel.newObj {B : Nat → Bool} {ρ : Ren} {σ : St} {w : World} (h : SRel B ρ σ w) (p : Place) (o : AObj) (obj : Obj) (hp : p.block = w.heap.size)
    (ho : ORel ρ σ.next p o { w with heap := w.heap.push obj }) :
    ∃ ρ', ρ' σ.next = p ∧ SRel B ρ' (σ.new o) { w with heap := w.heap.push obj } ∧ Step ρ σ w ρ' (σ.new o) { w with heap := w.heap.push obj } :=
  h.newAt p o (fun b hb => by simp only; rw [Array.getElem?_push, if_neg (by omega)]) (by simp) (by omega) ho rfl rfl rfl

/-- new cells -/
theorem SRel.newCells {B : Nat → Bool} {ρ : Ren} {σ : St} {w : World} (h : SRel B ρ σ w) (wd : Nat) (cs : List AVal) (vs : Array Value) (el : TypeId)
    (hl : LRel ρ σ.next cs (vs.toList.take cs.length)) (h1 : ∀ x ∈ cs, x.isCell = true) (hle : cs.length ≤ vs.size) :
    ∃ ρ', ρ' σ.next = ⟨w.heap.size, 0, vs.size, wd⟩ ∧ SRel B ρ' (σ.new (.cells wd cs)) { w with heap := w.heap.push (.cells vs el) } ∧
      Step ρ σ w ρ' (σ.new (.cells wd cs)) { w with heap := w.heap.push (.cells vs el) } := by
  refine h.newObj ⟨w.heap.size, 0, vs.size, wd⟩ (.cells wd cs) _ rfl ⟨rfl, hle, h1, vs, el, (0, 0), by simp, by simp, fun i x hx => ?_, fun j _ _ => by simp⟩
  obtain ⟨y, hy, hr⟩ := hl.get hx
  rw [List.getElem?_take] at hy
  split at hy
  · exact ⟨y, by simpa using hy, hr⟩
  · simp at hy

/-- an object that stands where another stood -/
theorem SRel.put {B : Nat → Bool} {ρ : Ren} {σ : St} {w w' : World} (h : SRel B ρ σ w) {n : Nat} {o o' : AObj} (hn : σ.get n = some o) (hlk : σ.lock n = false)
    (ho : ORel ρ σ.next (ρ n) o' w')
    (hoth : ∀ m x, m ≠ n → σ.get m = some x → (ρ n).disj (ρ m) → ORel ρ σ.next (ρ m) x w')
    (hfr : ∀ b, b ≠ (ρ n).block → w'.heap[b]? = w.heap[b]?) (hsz : w'.heap.size = w.heap.size)
    (hos : w'.os = w.os) (ht : w'.tape = w.tape) (hou : w'.output = w.output) :
    SRel B ρ (σ.set n o') w' ∧ Step ρ σ w ρ (σ.set n o') w' := by
  have hBn : B n = false := by
    cases hb : B n with
    | false => rfl
    | true => rw [h.lock n hb] at hlk; cases hlk
  refine ⟨⟨fun m x hm => ?_, fun m k x x' hm hk hmk hB => ?_, h.lock, h.glob⟩, ⟨Nat.le_refl _, fun _ _ => rfl, rfl, fun m hm hl => ?_, hos, ht, hou, by rw [hsz]; exact Nat.le_refl _, fun b hb hno => ?_, fun b hb => ?_, fun b hb => ?_⟩⟩
  · rw [St.get_set] at hm
    split at hm
    · rename_i e; subst e; simp at hm; subst hm; exact ⟨(h.obj m o hn).1, ho⟩
    · rename_i e
      exact ⟨(h.obj m x hm).1, hoth m x e hm (h.dis n m o x hn hm (fun e' => e e'.symm) (.inl hBn))⟩
  · rw [St.get_set] at hm hk
    split at hm
    · rename_i e; subst e
      rw [if_neg (fun e => hmk e.symm)] at hk
      exact h.dis m k o x' hn hk hmk hB
    · split at hk
      · rename_i e; subst e; exact h.dis m k x o hm hn hmk hB
      · exact h.dis m k x x' hm hk hmk hB
  · rw [St.get_set]; split
    · rename_i e; subst e; rw [hlk] at hl; cases hl
    · rfl
  · exact hfr b (fun e => hno ⟨n, o, hn, hlk, e.symm⟩)
  · obtain ⟨m, x, hm, hl, hb⟩ := hb
    rw [St.get_set] at hm
    split at hm
    · rename_i e; subst e; exact .inr ⟨m, o, hn, hlk, hb⟩
    · exact .inr ⟨m, x, hm, hl, hb⟩
  · obtain ⟨m, x, hm, hb⟩ := hb
    rw [St.get_set] at hm
    split at hm
    · rename_i e; subst e; exact .inr ⟨m, o, hn, hb⟩
    · exact .inr ⟨m, x, hm, hb⟩

theorem length_writeL (cs : List AVal) (off : Nat) (vs : List AVal) (h : off + vs.length ≤ cs.length) : (writeL cs off vs).length = cs.length := by
  simp [writeL]; omega

theorem isCell_writeL {cs vs : List AVal} {off : Nat} (h1 : ∀ x ∈ cs, x.isCell = true) (h2 : ∀ x ∈ vs, x.isCell = true) : ∀ x ∈ writeL cs off vs, x.isCell = true := by
  intro x hx
  simp only [writeL, List.mem_append] at hx
  rcases hx with (hx | hx) | hx
  · exact h1 x (List.mem_of_mem_take hx)
  · exact h2 x hx
  · exact h1 x (List.mem_of_mem_drop hx)

/-- a store: cells of a block are written over -/
theorem SRel.write {B : Nat → Bool} {ρ : Ren} {σ : St} {w : World} (h : SRel B ρ σ w) {n wd : Nat} {cs : List AVal} (hn : σ.get n = some (.cells wd cs)) (hlk : σ.lock n = false)
    (o : Nat) (l : List AVal) (vs : List Value) (hl : LRel ρ σ.next l vs) (h1 : ∀ x ∈ l, x.isCell = true) (hle : o + l.length ≤ cs.length) :
    SRel B ρ (σ.set n (.cells wd (writeL cs o l))) (w.setCells (ρ n).block ((ρ n).off + o) vs) ∧
      Step ρ σ w ρ (σ.set n (.cells wd (writeL cs o l))) (w.setCells (ρ n).block ((ρ n).off + o) vs) := by
  obtain ⟨hlt, hw, hroom, hcell, c, el, fz, hb, hsz, hrel, hfz⟩ := h.obj n _ hn
  have hll := hl.1
  obtain ⟨c', hc', hh⟩ := heap_setCells vs ((ρ n).off + o) w c hb (by omega)
  obtain ⟨r1, r2, r3, r4⟩ := setCells_rest (ρ n).block vs ((ρ n).off + o) w
  have hc'sz : c'.size = c.size := by
    have := congrArg List.length hc'
    simp at this; omega
  have hget : ∀ i, c'[i]? = if (ρ n).off + o ≤ i ∧ i < (ρ n).off + o + vs.length then vs[i - ((ρ n).off + o)]? else c[i]? := fun i => by
    rw [← Array.getElem?_toList, hc', getElem?_writeL _ _ _ (by simp; omega)]
    simp
  refine h.put hn hlk ⟨hw, by rw [length_writeL _ _ _ hle]; exact hroom, isCell_writeL hcell h1, c', el, fz, by rw [hh, if_pos rfl], by omega, fun i x hx => ?_, hfz⟩ (fun m x hm hmx hd => ?_) (fun b hbn => by rw [hh, if_neg hbn]) r4 r1 r2 r3
  · rw [writeL, getElem?_writeL _ _ _ hle] at hx
    rw [hget]
    split at hx
    · rename_i hi
      rw [if_pos (by omega)]
      obtain ⟨v, hv, hr⟩ := hl.get hx
      exact ⟨v, by rw [show (ρ n).off + i - ((ρ n).off + o) = i - o by omega]; exact hv, hr⟩
    · rename_i hi
      rw [if_neg (by omega)]
      exact hrel i x hx
  · have hm' := (h.obj m x hmx).2
    by_cases e : (ρ m).block = (ρ n).block
    · cases x with
      | map es => obtain ⟨_, _, es', clk, hb', _⟩ := hm'; rw [e, hb] at hb'; cases hb'
      | cells wd' cs' =>
        obtain ⟨k1, k2, k3, c2, el2, fz2, k4, k5, k6, k7⟩ := hm'
        rw [e, hb] at k4
        simp at k4
        obtain ⟨rfl, rfl, rfl⟩ := k4
        refine ⟨k1, k2, k3, c', el, fz, by rw [hh, if_pos e], by omega, fun i y hy => ?_, k7⟩
        obtain ⟨v, hv, hr⟩ := k6 i y hy
        have hi : i < cs'.length := (List.getElem?_eq_some_iff.1 hy).1
        refine ⟨v, ?_, hr⟩
        rw [hget, if_neg]
        · exact hv
        · unfold Place.disj at hd; omega
    · exact hm'.mono (Nat.le_refl _) (fun _ _ => rfl) (by rw [hh, if_neg e])

/-- a slice that grows in a new block: its elder name is gone -/
theorem SRel.del {B : Nat → Bool} {ρ : Ren} {σ : St} {w : World} (h : SRel B ρ σ w) {n : Nat} (hlk : σ.lock n = false) :
    SRel B ρ (σ.del n) w ∧ Step ρ σ w ρ (σ.del n) w := by
  refine ⟨⟨fun m x hm => ?_, fun m k x x' hm hk => ?_, h.lock, h.glob⟩, ⟨Nat.le_refl _, fun _ _ => rfl, rfl, fun m hm hl => ?_, rfl, rfl, rfl, Nat.le_refl _, fun b _ _ => rfl, fun b hb => ?_, fun b hb => ?_⟩⟩
  · rw [St.get_del] at hm; split at hm
    · cases hm
    · exact h.obj m x hm
  · rw [St.get_del] at hm hk; split at hm
    · cases hm
    · split at hk
      · cases hk
      · exact h.dis m k x x' hm hk
  · rw [St.get_del]; split
    · rename_i e; subst e; rw [hlk] at hl; cases hl
    · rfl
  · obtain ⟨m, x, hm, hl, hb⟩ := hb
    rw [St.get_del] at hm; split at hm
    · cases hm
    · exact .inr ⟨m, x, hm, hl, hb⟩
  · obtain ⟨m, x, hm, hb⟩ := hb
    rw [St.get_del] at hm; split at hm
    · cases hm
    · exact .inr ⟨m, x, hm, hb⟩

/-- a slice that grows where it lies -/
theorem SRel.growIn {B : Nat → Bool} {ρ : Ren} {σ : St} {w : World} (h : SRel B ρ σ w) {n wd : Nat} {cs : List AVal} (hn : σ.get n = some (.cells wd cs)) (hlk : σ.lock n = false)
    (o k : Nat) (l : List AVal) (vs : List Value) (room : Nat) (hl : LRel ρ σ.next l vs) (h1 : ∀ x ∈ l, x.isCell = true) (hk : o + k ≤ cs.length) (hroom : k + l.length ≤ room) (hin : o + room ≤ (ρ n).room) :
    ∃ ρ', ρ' σ.next = ⟨(ρ n).block, (ρ n).off + o, room, wd⟩ ∧ SRel B ρ' ((σ.del n).new (.cells wd ((cs.drop o).take k ++ l))) (w.setCells (ρ n).block ((ρ n).off + o + k) vs) ∧
      Step ρ σ w ρ' ((σ.del n).new (.cells wd ((cs.drop o).take k ++ l))) (w.setCells (ρ n).block ((ρ n).off + o + k) vs) := by
  obtain ⟨hlt, hw, hrm, hcell, c, el, fz, hb, hsz, hrel, hfz⟩ := h.obj n _ hn
  have hBn : B n = false := by
    cases hb : B n with
    | false => rfl
    | true => rw [h.lock n hb] at hlk; cases hlk
  have hll := hl.1
  obtain ⟨c', hc', hh⟩ := heap_setCells vs ((ρ n).off + o + k) w c hb (by omega)
  obtain ⟨r1, r2, r3, r4⟩ := setCells_rest (ρ n).block vs ((ρ n).off + o + k) w
  have hc'sz : c'.size = c.size := by
    have := congrArg List.length hc'
    simp at this; omega
  have hget : ∀ i, c'[i]? = if (ρ n).off + o + k ≤ i ∧ i < (ρ n).off + o + k + vs.length then vs[i - ((ρ n).off + o + k)]? else c[i]? := fun i => by
    rw [← Array.getElem?_toList, hc', getElem?_writeL _ _ _ (by simp; omega)]
    simp
  let p : Place := ⟨(ρ n).block, (ρ n).off + o, room, wd⟩
  let ρ' : Ren := fun m => if m = σ.next then p else ρ m
  have hren : ∀ m, m < σ.next → ρ' m = ρ m := fun m hm => if_neg (by omega)
  have hnx : ρ' σ.next = p := if_pos rfl
  have hgetS : ∀ m, ((σ.del n).new (.cells wd ((cs.drop o).take k ++ l))).get m = if m = σ.next then some (.cells wd ((cs.drop o).take k ++ l)) else if m = n then none else σ.get m := fun m => by
    rw [St.get_new, St.get_del]; rfl
  have hnext : ((σ.del n).new (.cells wd ((cs.drop o).take k ++ l))).next = σ.next + 1 := rfl
  have hlen : ((cs.drop o).take k).length = k := by simp; omega
  refine ⟨ρ', hnx, ⟨fun m x hm => ?_, fun m j x x' hm hj hmj hB => ?_, h.lock, fun g hg => ⟨by rw [hnext]; have := (h.glob g hg).1; omega, by rw [hren g (h.glob g hg).1]; exact (h.glob g hg).2.1, by rw [hren g (h.glob g hg).1]; exact (h.glob g hg).2.2⟩⟩, ⟨by rw [hnext]; omega, hren, rfl, fun m hm hl => ?_, r1, r2, r3, by rw [r4]; exact Nat.le_refl _, fun b hb' hno => ?_, fun b hb' => ?_, fun b hb' => ?_⟩⟩
  · rw [hgetS] at hm
    rw [hnext]
    split at hm
    · rename_i e; subst e; simp at hm; subst hm
      refine ⟨by omega, ?_⟩
      rw [hnx]
      refine ⟨rfl, by rw [List.length_append, hlen]; exact hroom, fun x hx => ?_, c', el, fz, by rw [hh, if_pos rfl], ?_, fun i x hx => ?_, fun j hj1 hj2 => hfz j ?_ ?_⟩
      · rcases List.mem_append.1 hx with hx | hx
        · exact hcell x (List.mem_of_mem_drop (List.mem_of_mem_take hx))
        · exact h1 x hx
      · show (ρ n).off + o + room ≤ c'.size; omega
      · rw [List.getElem?_append] at hx
        show ∃ v, c'[(ρ n).off + o + i]? = some v ∧ _
        rw [hget]
        split at hx
        · rename_i hi
          rw [hlen] at hi
          rw [List.getElem?_take_of_lt hi, List.getElem?_drop] at hx
          rw [if_neg (by omega)]
          obtain ⟨v, hv, hr⟩ := hrel _ x hx
          exact ⟨v, by rw [Nat.add_assoc]; exact hv, hr.mono (by omega) hren⟩
        · rename_i hi
          rw [hlen] at hi hx
          have hi2 : i - k < l.length := (List.getElem?_eq_some_iff.1 hx).1
          rw [if_pos (by omega)]
          obtain ⟨v, hv, hr⟩ := hl.get hx
          exact ⟨v, by rw [show (ρ n).off + o + i - ((ρ n).off + o + k) = i - k by omega]; exact hv, hr.mono (by omega) hren⟩
      · have : (ρ n).off + o ≤ j := hj1; omega
      · have : j < (ρ n).off + o + room := hj2; omega
    · rename_i e
      split at hm
      · cases hm
      · rename_i e2
        obtain ⟨hm1, hm'⟩ := h.obj m x hm
        refine ⟨by omega, ?_⟩
        rw [hren m hm1]
        have hd := h.dis n m _ x hn hm (fun e' => e2 e'.symm) (.inl hBn)
        by_cases e3 : (ρ m).block = (ρ n).block
        · cases x with
          | map es => obtain ⟨_, _, es', clk, hb', _⟩ := hm'; rw [e3, hb] at hb'; cases hb'
          | cells wd' cs' =>
            obtain ⟨k1, k2, k3, c2, el2, fz2, k4, k5, k6, k7⟩ := hm'
            rw [e3, hb] at k4
            simp at k4
            obtain ⟨rfl, rfl, rfl⟩ := k4
            refine ⟨k1, k2, k3, c', el, fz, by rw [hh, if_pos e3], by omega, fun i y hy => ?_, k7⟩
            obtain ⟨v, hv, hr⟩ := k6 i y hy
            have hi : i < cs'.length := (List.getElem?_eq_some_iff.1 hy).1
            refine ⟨v, ?_, hr.mono (by omega) hren⟩
            rw [hget, if_neg]
            · exact hv
            · unfold Place.disj at hd; omega
        · exact hm'.mono (by omega) hren (by rw [hh, if_neg e3])
  · rw [hgetS] at hm hj
    have hside : ∀ q y, q ≠ n → σ.get q = some y → p.disj (ρ q) := fun q y hq hy => by
      have hd := h.dis n q _ y hn hy (fun e => hq e.symm) (.inl hBn)
      unfold Place.disj at *
      simp only [p]
      omega
    split at hm
    · rename_i e; subst e
      rw [if_neg (fun e => hmj e.symm)] at hj
      split at hj
      · cases hj
      · rename_i e2
        rw [hnx, hren j (h.obj j x' hj).1]
        exact hside j x' e2 hj
    · split at hm
      · cases hm
      · rename_i e2
        split at hj
        · rename_i e3; subst e3
          rw [hnx, hren m (h.obj m x hm).1]
          exact (hside m x e2 hm).symm
        · split at hj
          · cases hj
          · rw [hren m (h.obj m x hm).1, hren j (h.obj j x' hj).1]
            exact h.dis m j x x' hm hj hmj hB
  · rw [hgetS, if_neg (by omega)]; split
    · rename_i e; subst e; rw [hlk] at hl; cases hl
    · rfl
  · rw [hh, if_neg (fun e => hno ⟨n, _, hn, hlk, e.symm⟩)]
  · obtain ⟨m, x, hm, hl, hb2⟩ := hb'
    rw [hgetS] at hm
    split at hm
    · rename_i e; subst e; rw [hnx] at hb2; exact .inr ⟨n, _, hn, hlk, hb2⟩
    · split at hm
      · cases hm
      · exact .inr ⟨m, x, hm, hl, by rw [← hren m (h.obj m x hm).1]; exact hb2⟩
  · obtain ⟨m, x, hm, hb2⟩ := hb'
    rw [hgetS] at hm
    split at hm
    · rename_i e; subst e; rw [hnx] at hb2; exact .inr ⟨n, _, hn, hb2⟩
    · split at hm
      · cases hm
      · exact .inr ⟨m, x, hm, by rw [← hren m (h.obj m x hm).1]; exact hb2⟩

end Go.Abs
namespace Go.Abs

/-! ### the relation of frames -/

inductive SlotRel (ρ : Ren) (β : Nat → Nat) (N : Nat) (t : Nat) : Slot → Value → Prop where
  | val {a : AVal} {v : Value} (h : VRel ρ N a v) : SlotRel ρ β N t (.val a) v
  | box (cs : List AVal) : SlotRel ρ β N t (.box cs) (.pointer (some ⟨β t, 0, none⟩))
  | ref (s o : Nat) : SlotRel ρ β N t (.ref s o) (.pointer (some ⟨β s, o, none⟩))
  | dead (v : Value) : SlotRel ρ β N t .dead v

def BoxAt (ρ : Ren) (N : Nat) (cs : List AVal) (b : Nat) (w : World) : Prop :=
  (∀ x ∈ cs, x.isCell = true) ∧ ∃ c el fz, w.heap[b]? = some (.cells c el fz) ∧ LRel ρ N cs c.toList ∧ ∀ j, ¬ (fz.1 ≤ j ∧ j < fz.2)

def DRel (ρ : Ren) (N : Nat) (d : FuncId × List AVal) (d' : Deferred) : Prop :=
  ∃ cap, d'.target = .fn (.func d.1) cap ∧ LRel ρ N d.2 (d'.args ++ cap).toList

structure FRel (ρ : Ren) (β : Nat → Nat) (base : Nat) (fr : Fr) (σ : St) (a : Act) (w : World) : Prop where
  size : fr.slots.length = a.tmps.size
  slot : ∀ t s v, fr.slots[t]? = some s → a.tmps[t]? = some v → SlotRel ρ β σ.next t s v
  box : ∀ t cs, fr.slots[t]? = some (.box cs) → base ≤ β t ∧ ¬ OwnAll ρ σ (β t) ∧ BoxAt ρ σ.next cs (β t) w
  inj : ∀ t t' cs cs', fr.slots[t]? = some (.box cs) → fr.slots[t']? = some (.box cs') → t ≠ t' → β t ≠ β t'
  defers : All2 (DRel ρ σ.next) fr.defers a.defers

structure Inv (B : Nat → Bool) (ρ0 : Ren) (σ0 : St) (w0 : World) (ρ : Ren) (β : Nat → Nat) (fr : Fr) (σ : St) (a : Act) (w : World) : Prop where
  s : SRel B ρ σ w
  st : Step ρ0 σ0 w0 ρ σ w
  f : FRel ρ β w0.heap.size fr σ a w

section
variable {B : Nat → Bool} {ρ0 : Ren} {σ0 : St} {w0 : World} {ρ : Ren} {β : Nat → Nat} {fr : Fr} {σ : St} {a : Act} {w : World}

theorem BoxAt.lt {ρ : Ren} {N : Nat} {cs : List AVal} {b : Nat} {w : World} (h : BoxAt ρ N cs b w) : b < w.heap.size := by
  obtain ⟨_, c, el, fz, hb, _⟩ := h; exact (Array.getElem?_eq_some_iff.1 hb).1

theorem BoxAt.mono {ρ ρ' : Ren} {N N' : Nat} {cs : List AVal} {b : Nat} {w w' : World} (h : BoxAt ρ N cs b w) (hN : N ≤ N') (he : ∀ n, n < N → ρ' n = ρ n)
    (hb : w'.heap[b]? = w.heap[b]?) : BoxAt ρ' N' cs b w' := by
  obtain ⟨h1, c, el, fz, h2, h3, h4⟩ := h
  exact ⟨h1, c, el, fz, hb ▸ h2, h3.mono' hN he, h4⟩

theorem SlotRel.mono {ρ ρ' : Ren} {β : Nat → Nat} {N N' : Nat} {t : Nat} {s : Slot} {v : Value} (h : SlotRel ρ β N t s v) (hN : N ≤ N') (he : ∀ n, n < N → ρ' n = ρ n) : SlotRel ρ' β N' t s v := by
  cases h with
  | val h => exact .val (h.mono hN he)
  | box cs => exact .box cs
  | ref s o => exact .ref s o
  | dead v => exact .dead v

/-- what happens in the heap of names leaves the frame as it is -/
theorem FRel.global {ρ' : Ren} {σ' : St} {w' : World} {base : Nat} (h : FRel ρ β base fr σ a w) (hst : Step ρ σ w ρ' σ' w') : FRel ρ' β base fr σ' a w' := by
  refine ⟨h.size, fun t s v hs hv => (h.slot t s v hs hv).mono hst.next hst.ren, fun t cs hb => ?_, h.inj, h.defers.mono fun d d' hd => ?_⟩
  · obtain ⟨h1, h2, h3⟩ := h.box t cs hb
    refine ⟨h1, fun ho => ?_, h3.mono hst.next hst.ren (hst.frame _ h3.lt fun ho => h2 ho.all)⟩
    rcases hst.ownAll _ ho with h4 | h4
    · have := h3.lt; omega
    · exact h2 h4
  · obtain ⟨cap, hc, hl⟩ := hd
    exact ⟨cap, hc, hl.mono' hst.next hst.ren⟩

theorem Inv.global {ρ' : Ren} {σ' : St} {w' : World} (h : Inv B ρ0 σ0 w0 ρ β fr σ a w) (hs : SRel B ρ' σ' w') (hst : Step ρ σ w ρ' σ' w') : Inv B ρ0 σ0 w0 ρ' β fr σ' a w' :=
  ⟨hs, h.st.trans hst, h.f.global hst⟩

theorem tmps_put (a : Act) (d : Tmp) (v : Value) (t : Nat) : (a.put (some d) v).tmps[t]? = if t = d then (if d < a.tmps.size then some v else none) else a.tmps[t]? := by
  simp only [Act.put, Array.getElem?_setIfInBounds]
  by_cases e : d = t
  · subst e; simp
  · rw [if_neg e, if_neg (fun h => e h.symm)]

theorem slots_put (fr : Fr) (d : Tmp) (s : Slot) (t : Nat) : (fr.put (some d) s).slots[t]? = if t = d then (if d < fr.slots.length then some s else none) else fr.slots[t]? := by
  simp only [Fr.put, List.getElem?_set]
  by_cases e : d = t
  · subst e; simp
  · rw [if_neg e, if_neg (fun h => e h.symm)]

/-- a temporary gets a value, or an address -/
theorem FRel.put {base : Nat} (h : FRel ρ β base fr σ a w) (dst : Option Tmp) {s : Slot} {v : Value} (hs : ∀ t, SlotRel ρ β σ.next t s v) (hb : ∀ cs, s ≠ .box cs) :
    FRel ρ β base (fr.put dst s) σ (a.put dst v) w := by
  cases dst with
  | none => exact h
  | some d =>
    refine ⟨by simp [Fr.put, Act.put, h.size], fun t s' v' hs' hv' => ?_, fun t cs ht => ?_, fun t t' cs cs' ht ht' hne => ?_, h.defers⟩
    · rw [slots_put] at hs'
      rw [tmps_put] at hv'
      by_cases e : t = d
      · subst e
        rw [if_pos rfl] at hs' hv'
        split at hs' <;> simp at hs'
        split at hv' <;> simp at hv'
        subst hs'; subst hv'; exact hs t
      · rw [if_neg e] at hs' hv'
        exact h.slot t s' v' hs' hv'
    · rw [slots_put] at ht
      by_cases e : t = d
      · subst e
        rw [if_pos rfl] at ht
        split at ht <;> simp at ht
        exact absurd ht (hb cs)
      · rw [if_neg e] at ht
        exact h.box t cs ht
    · rw [slots_put] at ht ht'
      by_cases e : t = d
      · subst e
        rw [if_pos rfl] at ht
        split at ht <;> simp at ht
        exact absurd ht (hb cs)
      · by_cases e' : t' = d
        · subst e'
          rw [if_pos rfl] at ht'
          split at ht' <;> simp at ht'
          exact absurd ht' (hb cs')
        · rw [if_neg e] at ht
          rw [if_neg e'] at ht'
          exact h.inj t t' cs cs' ht ht' hne

theorem Inv.put (h : Inv B ρ0 σ0 w0 ρ β fr σ a w) (dst : Option Tmp) {s : AVal} {v : Value} (hs : VRel ρ σ.next s v) :
    Inv B ρ0 σ0 w0 ρ β (fr.put dst (.val s)) σ (a.put dst v) w := ⟨h.s, h.st, h.f.put dst (fun _ => .val hs) (fun _ => by simp)⟩

theorem Inv.putRef (h : Inv B ρ0 σ0 w0 ρ β fr σ a w) (dst : Option Tmp) (s o : Nat) :
    Inv B ρ0 σ0 w0 ρ β (fr.put dst (.ref s o)) σ (a.put dst (.pointer (some ⟨β s, o, none⟩))) w := ⟨h.s, h.st, h.f.put dst (fun _ => .ref s o) (fun _ => by simp)⟩

/-- a slot that says more plainly what it said -/
theorem FRel.same {base : Nat} (h : FRel ρ β base fr σ a w) {t : Nat} {x : AVal} (hs : fr.slots[t]? = some (.val x)) : fr.slots.set t (.val x) = fr.slots := by
  apply List.ext_getElem?
  intro i
  rw [List.getElem?_set]
  split
  · rename_i e; subst e
    have := (List.getElem?_eq_some_iff.1 hs).1
    rw [if_pos this, hs]
  · rfl

theorem Inv.putDead (h : Inv B ρ0 σ0 w0 ρ β fr σ a w) (dst : Option Tmp) (v : Value) :
    Inv B ρ0 σ0 w0 ρ β (fr.put dst .dead) σ (a.put dst v) w := ⟨h.s, h.st, h.f.put dst (fun _ => .dead v) (fun _ => by simp)⟩

theorem inval_length (d : Nat) : ∀ l : List Slot, (inval d l).length = l.length
  | [] => rfl
  | .ref t o :: r => by simp [inval, inval_length d r]
  | .val v :: r => by simp [inval, inval_length d r]
  | .box c :: r => by simp [inval, inval_length d r]
  | .dead :: r => by simp [inval, inval_length d r]

theorem inval_get (d : Nat) : ∀ (l : List Slot) (i : Nat), (inval d l)[i]? = (l[i]?).map fun s => match s with
    | .ref t o => if t = d then .dead else .ref t o
    | s => s
  | [], i => by simp [inval]
  | .ref t o :: r, i => by cases i <;> simp [inval, inval_get d r]
  | .val v :: r, i => by cases i <;> simp [inval, inval_get d r]
  | .box c :: r, i => by cases i <;> simp [inval, inval_get d r]
  | .dead :: r, i => by cases i <;> simp [inval, inval_get d r]

/-- a variable of the call's own is made -/
theorem Inv.newBox (h : Inv B ρ0 σ0 w0 ρ β fr σ a w) (d : Tmp) {cs : List AVal} (c : Array Value) (el : TypeId) (hl : LRel ρ σ.next cs c.toList) (h1 : ∀ x ∈ cs, x.isCell = true) :
    ∃ β', (∀ s, s ≠ d → β' s = β s) ∧ Inv B ρ0 σ0 w0 ρ β' (fr.newBox d cs) σ (a.put (some d) (.pointer (some ⟨w.heap.size, 0, none⟩))) { w with heap := w.heap.push (.cells c el) } := by
  let β' : Nat → Nat := fun s => if s = d then w.heap.size else β s
  refine ⟨β', fun s hs => if_neg hs, ?_⟩
  have hpush : ∀ b, b < w.heap.size → (w.heap.push (.cells c el))[b]? = w.heap[b]? := fun b hb => by rw [Array.getElem?_push, if_neg (by omega)]
  have hno : ∀ b, OwnAll ρ σ b → b < w.heap.size := fun b ⟨n, o, hn, hb⟩ => hb ▸ (h.s.obj n o hn).2.lt
  have hslots : ∀ t, (fr.newBox d cs).slots[t]? = if t = d then (if d < fr.slots.length then some (.box cs) else none) else (fr.slots[t]?).map fun s => match s with
      | .ref t o => if t = d then .dead else .ref t o
      | s => s := fun t => by
    simp only [Fr.newBox, List.getElem?_set, inval_length]
    by_cases e : d = t
    · subst e; simp
    · rw [if_neg e, if_neg (fun e' => e e'.symm), inval_get]
  have hbox : ∀ t cs', t ≠ d → (fr.newBox d cs).slots[t]? = some (.box cs') → fr.slots[t]? = some (.box cs') := fun t cs' e ht => by
    rw [hslots, if_neg e] at ht
    cases hs : fr.slots[t]? with
    | none => rw [hs] at ht; simp at ht
    | some s =>
      rw [hs] at ht
      cases s with
      | box c => simpa using ht
      | ref s o => simp at ht; split at ht <;> cases ht
      | val v => simp at ht
      | dead => simp at ht
  refine ⟨⟨fun n o hn => ⟨(h.s.obj n o hn).1, (h.s.obj n o hn).2.mono (Nat.le_refl _) (fun _ _ => rfl) (hpush _ (h.s.obj n o hn).2.lt)⟩, h.s.dis, h.s.lock, h.s.glob⟩,
    ⟨h.st.next, h.st.ren, h.st.lock, h.st.keep, h.st.os, h.st.tape, h.st.output, by simp; have := h.st.size; omega, fun b hb ho => by
      simp only; rw [hpush b (by have := h.st.size; omega)]; exact h.st.frame b hb ho, h.st.own, h.st.ownAll⟩, ?_⟩
  refine ⟨by simp [Fr.newBox, Act.put, inval_length, h.f.size], fun t s v hs hv => ?_, fun t cs' ht => ?_, fun t t' cs1 cs2 ht ht' hne => ?_, h.f.defers⟩
  · rw [hslots] at hs
    rw [tmps_put] at hv
    by_cases e : t = d
    · subst e
      rw [if_pos rfl] at hs hv
      split at hs <;> simp at hs
      split at hv <;> simp at hv
      subst hs; subst hv
      have : SlotRel ρ β' σ.next t (.box cs) (.pointer (some ⟨β' t, 0, none⟩)) := .box cs
      rwa [show β' t = w.heap.size from if_pos rfl] at this
    · rw [if_neg e] at hs hv
      cases hs0 : fr.slots[t]? with
      | none => rw [hs0] at hs; simp at hs
      | some s0 =>
        rw [hs0] at hs
        have hsl := h.f.slot t s0 v hs0 hv
        simp only [Option.map_some, Option.some.injEq] at hs
        cases hsl with
        | val h' => simp only at hs; subst hs; exact .val h'
        | box cs' => simp only at hs; subst hs; rw [← show β' t = β t from if_neg e]; exact .box cs'
        | ref s' o =>
          simp only at hs
          split at hs
          · subst hs; exact .dead _
          · rename_i hsd
            subst hs
            rw [← show β' s' = β s' from if_neg hsd]; exact .ref s' o
        | dead v => simp only at hs; subst hs; exact .dead _
  · by_cases e : t = d
    · subst e
      rw [hslots, if_pos rfl] at ht
      split at ht <;> simp at ht
      subst ht
      rw [show β' t = w.heap.size from if_pos rfl]
      exact ⟨h.st.size, fun ho => Nat.lt_irrefl _ (hno _ ho), h1, c, el, (0, 0), by simp, hl, fun j => by simp⟩
    · obtain ⟨k1, k2, k3⟩ := h.f.box t cs' (hbox t cs' e ht)
      rw [show β' t = β t from if_neg e]
      exact ⟨k1, k2, k3.mono (Nat.le_refl _) (fun _ _ => rfl) (hpush _ k3.lt)⟩
  · by_cases e : t = d
    · subst e
      rw [show β' t = w.heap.size from if_pos rfl, show β' t' = β t' from if_neg (fun e' => hne e'.symm)]
      have := (h.f.box t' cs2 (hbox t' cs2 (fun e' => hne e'.symm) ht')).2.2.lt
      omega
    · by_cases e' : t' = d
      · subst e'
        rw [show β' t' = w.heap.size from if_pos rfl, show β' t = β t from if_neg e]
        have := (h.f.box t cs1 (hbox t cs1 e ht)).2.2.lt
        omega
      · rw [show β' t = β t from if_neg e, show β' t' = β t' from if_neg e']
        exact h.f.inj t t' cs1 cs2 (hbox t cs1 e ht) (hbox t' cs2 e' ht') hne

/-- a store into a variable of the call's own -/
theorem Inv.boxWrite (h : Inv B ρ0 σ0 w0 ρ β fr σ a w) {s : Nat} {cs : List AVal} (hs : fr.slots[s]? = some (.box cs)) (o : Nat) {l : List AVal} {vs : List Value}
    (hl : LRel ρ σ.next l vs) (h1 : ∀ x ∈ l, x.isCell = true) (hle : o + l.length ≤ cs.length) :
    Inv B ρ0 σ0 w0 ρ β { fr with slots := fr.slots.set s (.box (writeL cs o l)) } σ a (w.setCells (β s) o vs) := by
  obtain ⟨k1, k2, hcell, c, el, fz, hb, hrel, hfz⟩ := h.f.box s cs hs
  have hlen : cs.length = c.size := by simpa using hrel.1
  have hll := hl.1
  obtain ⟨c', hc', hh⟩ := heap_setCells vs o w c hb (by omega)
  obtain ⟨r1, r2, r3, r4⟩ := setCells_rest (β s) vs o w
  have hslen := (List.getElem?_eq_some_iff.1 hs).1
  have hslots : ∀ t, (fr.slots.set s (Slot.box (writeL cs o l)))[t]? = if t = s then some (.box (writeL cs o l)) else fr.slots[t]? := fun t => by
    rw [List.getElem?_set]
    by_cases e : s = t
    · subst e; simp [hslen]
    · rw [if_neg e, if_neg (fun e' => e e'.symm)]
  have hbx : ∀ t cs', (fr.slots.set s (Slot.box (writeL cs o l)))[t]? = some (.box cs') → ∃ cs0, fr.slots[t]? = some (.box cs0) ∧ (t ≠ s → cs0 = cs') ∧ (t = s → cs' = writeL cs o l) := fun t cs' ht => by
    rw [hslots] at ht
    split at ht
    · rename_i e; subst e; simp at ht; exact ⟨cs, hs, fun e => absurd rfl e, fun _ => ht.symm⟩
    · rename_i e; exact ⟨cs', ht, fun _ => rfl, fun e' => absurd e' e⟩
  refine ⟨⟨fun n x hn => ⟨(h.s.obj n x hn).1, (h.s.obj n x hn).2.mono (Nat.le_refl _) (fun _ _ => rfl) ?_⟩, h.s.dis, h.s.lock, h.s.glob⟩,
    ⟨h.st.next, h.st.ren, h.st.lock, h.st.keep, r1.trans h.st.os, r2.trans h.st.tape, r3.trans h.st.output, by rw [r4]; exact h.st.size, fun b hb ho => ?_, h.st.own, h.st.ownAll⟩, ?_⟩
  · rw [hh, if_neg (fun e => k2 ⟨n, x, hn, e⟩)]
  · rw [hh, if_neg (by omega)]; exact h.st.frame b hb ho
  · refine ⟨by simp [h.f.size], fun t x v hx hv => ?_, fun t cs' ht => ?_, fun t t' cs1 cs2 ht ht' hne => ?_, h.f.defers⟩
    · rw [hslots] at hx
      split at hx
      · rename_i e; subst e; simp at hx; subst hx
        have := h.f.slot t _ v hs hv
        cases this; exact .box _
      · exact h.f.slot t x v hx hv
    · obtain ⟨cs0, hcs0, e1, e2⟩ := hbx t cs' ht
      obtain ⟨j1, j2, j3⟩ := h.f.box t cs0 hcs0
      refine ⟨j1, j2, ?_⟩
      by_cases e : t = s
      · subst e
        rw [e2 rfl]
        refine ⟨isCell_writeL hcell h1, c', el, fz, by rw [hh, if_pos rfl], ?_, hfz⟩
        rw [hc']
        exact hrel.write hl o
      · have := e1 e; subst this
        exact j3.mono (Nat.le_refl _) (fun _ _ => rfl) (by rw [hh, if_neg (h.f.inj t s _ _ hcs0 hs e)])
    · obtain ⟨c1, hc1, _⟩ := hbx t cs1 ht
      obtain ⟨c2, hc2, _⟩ := hbx t' cs2 ht'
      exact h.f.inj t t' c1 c2 hc1 hc2 hne

/-! ### operands -/

theorem ev_val (h : Inv B ρ0 σ0 w0 ρ β fr σ a w) {x : Operand} {v : AVal} (hx : fr.ev x = some (.val v)) : VRel ρ σ.next v (a.eval x) := by
  cases x with
  | tmp t =>
    simp only [Fr.ev] at hx
    split at hx
    · cases hx
    · obtain ⟨u, hu⟩ : ∃ u, a.tmps[t]? = some u := by
        have := (List.getElem?_eq_some_iff.1 hx).1
        exact ⟨a.tmps[t]'(by rw [← h.f.size]; exact this), Array.getElem?_eq_getElem _⟩
      have := h.f.slot t _ u hx hu
      cases this with
      | val hv => simpa [Act.eval, hu] using hv
  | const c =>
    simp only [Fr.ev] at hx
    split at hx <;> simp at hx
    rename_i y hy
    subst hx
    exact VRel.of_const hy
  | global g =>
    simp only [Fr.ev] at hx
    split at hx <;> simp at hx
    rename_i hg
    subst hx
    obtain ⟨g1, g2, g3⟩ := h.s.glob g hg
    have : VRel ρ σ.next (.ptr (some (g, 0))) (.pointer (some ⟨(ρ g).block, (ρ g).off + 0, none⟩)) := .ptr 0 g1
    rw [g2, g3] at this
    exact this
  | func f =>
    simp only [Fr.ev] at hx
    simp at hx
    subst hx
    exact .func _ rfl rfl (fun i x y hx => by simp at hx) (fun i x y hx => by simp at hx)

theorem ev_ref (h : Inv B ρ0 σ0 w0 ρ β fr σ a w) {x : Operand} {s o : Nat} (hx : fr.ev x = some (.ref s o)) : a.eval x = .pointer (some ⟨β s, o, none⟩) := by
  cases x with
  | tmp t =>
    simp only [Fr.ev] at hx
    split at hx
    · rename_i cs hs
      simp at hx
      obtain ⟨rfl, rfl⟩ := hx
      obtain ⟨u, hu⟩ : ∃ u, a.tmps[t]? = some u := by
        have := (List.getElem?_eq_some_iff.1 hs).1
        exact ⟨a.tmps[t]'(by rw [← h.f.size]; exact this), Array.getElem?_eq_getElem _⟩
      have := h.f.slot t _ u hs hu
      cases this
      simp [Act.eval, hu]
    · obtain ⟨u, hu⟩ : ∃ u, a.tmps[t]? = some u := by
        have := (List.getElem?_eq_some_iff.1 hx).1
        exact ⟨a.tmps[t]'(by rw [← h.f.size]; exact this), Array.getElem?_eq_getElem _⟩
      have := h.f.slot t _ u hx hu
      cases this
      simp [Act.eval, hu]
  | const c => simp only [Fr.ev] at hx; split at hx <;> simp at hx
  | global g => simp only [Fr.ev] at hx; split at hx <;> simp at hx
  | func f => simp [Fr.ev] at hx

theorem ev_box {x : Operand} {cs : List AVal} : fr.ev x ≠ some (.box cs) := by
  intro hx
  cases x with
  | tmp t =>
    simp only [Fr.ev] at hx
    split at hx
    · cases hx
    · rename_i hs; exact hs cs hx
  | const c => simp only [Fr.ev] at hx; split at hx <;> simp at hx
  | global g => simp only [Fr.ev] at hx; split at hx <;> simp at hx
  | func f => simp [Fr.ev] at hx

theorem valK_some {α : Type} {s : Option Slot} {k : AVal → Option α} {r : α} (h : valK s k = some r) : ∃ v, s = some (.val v) ∧ k v = some r := by
  unfold valK at h; split at h
  · exact ⟨_, rfl, h⟩
  · cases h

theorem evs_rel (h : Inv B ρ0 σ0 w0 ρ β fr σ a w) : ∀ {l : List Operand} {vs : List AVal}, fr.evs l = some vs → LRel ρ σ.next vs (l.map a.eval) := by
  intro l
  induction l with
  | nil => intro vs hv; simp [Fr.evs] at hv; subst hv; exact All2.nil
  | cons x l ih =>
    intro vs hv
    simp only [Fr.evs] at hv
    split at hv
    · rename_i v l' hx hl'
      simp at hv; subst hv
      exact All2.cons (ev_val h hx) (ih hl')
    · cases hv

theorem evParts_rel (h : Inv B ρ0 σ0 w0 ρ β fr σ a w) : ∀ {l : List (Nat × Operand)} {vs : List (Nat × AVal)}, fr.evParts l = some vs →
    All2 (fun (p : Nat × AVal) (q : Nat × Value) => p.1 = q.1 ∧ VRel ρ σ.next p.2 q.2) vs (l.map fun (i, x) => (i, a.eval x)) := by
  intro l
  induction l with
  | nil => intro vs hv; simp [Fr.evParts] at hv; subst hv; exact All2.nil
  | cons x l ih =>
    obtain ⟨i, x⟩ := x
    intro vs hv
    simp only [Fr.evParts] at hv
    split at hv
    · rename_i v l' hx hl'
      simp at hv; subst hv
      exact All2.cons ⟨rfl, ev_val h hx⟩ (ih hl')
    · cases hv

end
end Go.Abs
namespace Go.Abs

section
variable {P : Program} {ρ : Ren} {N : Nat} {w : World}

theorem run_und {t : TypeId} {d : TypeDesc} (h : P.underlying t = some d) : (underlying t).run P w = .ok d w := by simp [underlying, h]

theorem run_size {t : TypeId} {n : Nat} (h : sizeT P t = some n) : (sizeOf t).run P w = .ok n w := by
  simp only [sizeT, Option.map_eq_some_iff] at h
  obtain ⟨i, hi, rfl⟩ := h
  simp [sizeOf, typeInfo, hi]

theorem run_agg {t : TypeId} {g : Bool} (h : aggT P t = some g) : (isAgg t).run P w = .ok g w := by
  simp only [aggT, Option.map_eq_some_iff] at h
  obtain ⟨d, hd, rfl⟩ := h
  simp only [isAgg, Sem.run_bind, run_und hd, Result.andThen_ok]
  cases d <;> rfl

theorem run_info {t : TypeId} {i : TypeInfo} (h : P.info? t = some i) : (typeInfo t).run P w = .ok i w := by simp [typeInfo, h]

theorem addr_add (b o n : Nat) : (⟨b, o, none⟩ : Addr).add n = ⟨b, o + n, none⟩ := by unfold Addr.add; split <;> simp_all

theorem partK_some {α : Type} {g : Bool} {cs : List AVal} {off size : Nat} {k : AVal → Option α} {r : α} (h : partK g cs off size k = some r) :
    (g = true ∧ off + size ≤ cs.length ∧ k (.agg ((cs.drop off).take size)) = some r) ∨ (g = false ∧ ∃ v, cs[off]? = some v ∧ k v = some r) := by
  unfold partK at h
  cases g with
  | true => simp only at h; split at h
            · exact .inl ⟨rfl, ‹_›, h⟩
            · cases h
  | false => simp only at h; split at h
             · exact .inr ⟨rfl, _, ‹_›, h⟩
             · cases h

/-- what a block holds -/
def Holds (ρ : Ren) (N : Nat) (cs : List AVal) (b base : Nat) (w : World) : Prop :=
  (∀ x ∈ cs, x.isCell = true) ∧ ∃ c el fz, w.heap[b]? = some (.cells c el fz) ∧ base + cs.length ≤ c.size ∧ (∀ (i : Nat) x, cs[i]? = some x → ∃ v, c[base + i]? = some v ∧ VRel ρ N x v) ∧
    ∀ j, base ≤ j → j < base + cs.length → ¬ (fz.1 ≤ j ∧ j < fz.2)

theorem BoxAt.holds {cs : List AVal} {b : Nat} (h : BoxAt ρ N cs b w) : Holds ρ N cs b 0 w := by
  obtain ⟨h1, c, el, fz, h2, h3, h4⟩ := h
  have := h3.1
  exact ⟨h1, c, el, fz, h2, by simp at this; omega, fun i x hx => by obtain ⟨v, hv, hr⟩ := h3.get hx; exact ⟨v, by simpa using hv, hr⟩, fun j _ _ => h4 j⟩

theorem ORel.holds {p : Place} {wd : Nat} {cs : List AVal} (h : ORel ρ N p (.cells wd cs) w) : Holds ρ N cs p.block p.off w := by
  obtain ⟨h1, h2, h3, c, el, fz, h4, h5, h6, h7⟩ := h
  exact ⟨h3, c, el, fz, h4, by omega, h6, fun j j1 j2 => h7 j j1 (by omega)⟩

/-- the concrete cells of a block's part -/
theorem Holds.cells {cs : List AVal} {b base : Nat} (h : Holds ρ N cs b base w) (off size : Nat) (hle : off + size ≤ cs.length) :
    ∃ vs : List Value, LRel ρ N ((cs.drop off).take size) vs ∧ vs.length = size ∧ ∀ j v, vs[j]? = some v → w.cell? ((⟨b, base + off, none⟩ : Addr).add j) = some v := by
  obtain ⟨h1, c, el, fz, h2, h3, h4, h5⟩ := h
  refine ⟨(c.toList.drop (base + off)).take size, ⟨?_, fun i x y hx hy => ?_⟩, ?_, fun j v hv => ?_⟩
  · simp; omega
  · rw [List.getElem?_take] at hx hy
    split at hx
    · rename_i hi
      rw [if_pos hi] at hy
      rw [List.getElem?_drop] at hx hy
      obtain ⟨v, hv, hr⟩ := h4 _ x hx
      rw [← Nat.add_assoc] at hv
      simp only [Array.getElem?_toList] at hy
      rw [hv] at hy; simp at hy; subst hy; exact hr
    · simp at hx
  · simp; omega
  · rw [addr_add, cell?_of h2]
    rw [List.getElem?_take] at hv
    split at hv
    · rw [List.getElem?_drop] at hv
      simpa [Nat.add_assoc] using hv
    · simp at hv

theorem Holds.load {cs : List AVal} {b base : Nat} (h : Holds ρ N cs b base w) {t : TypeId} {g : Bool} {size off : Nat} (hg : aggT P t = some g) (hs : sizeT P t = some size)
    {α : Type} {k : AVal → Option α} {r : α} (hp : partK g cs off size k = some r) :
    ∃ v v', k v = some r ∧ VRel ρ N v v' ∧ (loadVar t ⟨b, base + off, none⟩).run P w = .ok v' w := by
  rcases partK_some hp with ⟨rfl, hle, hk⟩ | ⟨rfl, v, hv, hk⟩
  · obtain ⟨vs, hl, hlen, hcell⟩ := h.cells off size hle
    refine ⟨_, .agg vs.toArray, hk, VRel.agg' (fun x hx => h.1 x (List.mem_of_mem_drop (List.mem_of_mem_take hx))) hl, ?_⟩
    have := run_loadCells_list (P := P) w ⟨b, base + off, none⟩ vs hcell
    simp only [loadVar, Sem.run_bind, run_agg hg, Result.andThen_ok, if_true, run_size hs, ← hlen, this, Sem.run_pure]
  · obtain ⟨h1, c, el, fz, h2, h3, h4, h5⟩ := h
    obtain ⟨v', hv', hr⟩ := h4 off v hv
    refine ⟨v, v', hk, hr, ?_⟩
    simp only [loadVar, Sem.run_bind, run_agg hg, Result.andThen_ok, Bool.false_eq_true, if_false, run_load]
    rw [cell?_of h2, hv']

/-- a store of a value's cells -/
theorem run_storeVar {t : TypeId} {size : Nat} (hs : sizeT P t = some size) {v : AVal} {v' : Value} (hv : VRel ρ N v v') (hd : v.isData = true) (hlen : v.cells.length = size)
    {b o : Nat} {c : Array Value} {el : TypeId} {fz : Nat × Nat} (hb : w.heap[b]? = some (.cells c el fz)) (hle : o + size ≤ c.size) (hfz : ∀ j, o ≤ j → j < o + size → ¬ (fz.1 ≤ j ∧ j < fz.2)) :
    (storeVar t ⟨b, o, none⟩ v').run P w = .ok () (w.setCells b o v'.cells.toList) := by
  obtain ⟨hl, hc⟩ := hv.cells hd
  have hsz : v'.cells.size = size := by have := hl.1; simp at this; omega
  have hst := run_storeCells_cells (P := P) b o v'.cells.toList 0 w (fun j hj => by
      rw [cell?_of hb]
      have : o + j < c.size := by simp at hj; omega
      simp [this]) (fun j hj => frozen?_of hb (hfz _ (by omega) (by simp at hj; omega)))
    (fun x hx => by
      obtain ⟨i, hi⟩ := List.getElem?_of_mem hx
      have hi' : i < v.cells.length := by rw [hl.1]; exact (List.getElem?_eq_some_iff.1 hi).1
      exact (hl.2 i _ x (List.getElem?_eq_getElem hi') hi).cell (hc _ (List.getElem_mem hi')))
  simp only [storeVar, Sem.run_bind, run_size hs, Result.andThen_ok, hsz, ne_eq, not_true, if_false]
  exact hst

/-! ### what the primitives say when they succeed -/

variable {α : Type} {r : α}

theorem putK_some {cs : List AVal} {off size : Nat} {v : AVal} {k : List AVal → Option α} (h : putK cs off size v k = some r) :
    v.isData = true ∧ v.cells.length = size ∧ off + size ≤ cs.length ∧ k (writeL cs off v.cells) = some r := by
  unfold putK at h; split at h
  · rename_i hc; exact ⟨hc.1, hc.2.1, hc.2.2, h⟩
  · cases h

theorem cellsK_some {σ : St} {n : Nat} {k : Nat → List AVal → Option α} (h : cellsK σ n k = some r) : ∃ wd cs, σ.get n = some (.cells wd cs) ∧ k wd cs = some r := by
  unfold cellsK at h; split at h
  · exact ⟨_, _, ‹_›, h⟩
  · cases h

theorem ldK_some {σ : St} {g : Bool} {size : Nat} {p : AVal} {k : AVal → Option α} (h : ldK σ g size p k = some r) :
    ∃ n o wd cs, p = .ptr (some (n, o)) ∧ σ.get n = some (.cells wd cs) ∧ partK g cs o size k = some r := by
  unfold ldK at h; split at h
  · obtain ⟨wd, cs, h1, h2⟩ := cellsK_some h
    exact ⟨_, _, wd, cs, rfl, h1, h2⟩
  · cases h

theorem stK_some {σ : St} {size : Nat} {p v : AVal} {k : St → Option α} (h : stK σ size p v k = some r) :
    ∃ n o wd cs, p = .ptr (some (n, o)) ∧ σ.lock n = false ∧ σ.get n = some (.cells wd cs) ∧ v.isData = true ∧ v.cells.length = size ∧ o + size ≤ cs.length ∧ k (σ.set n (.cells wd (writeL cs o v.cells))) = some r := by
  unfold stK at h; split at h
  · split at h
    · cases h
    · obtain ⟨wd, cs, h1, h2⟩ := cellsK_some h
      obtain ⟨h3, h4, h5, h6⟩ := putK_some h2
      exact ⟨_, _, wd, cs, rfl, ‹_›, h1, h3, h4, h5, h6⟩
  · cases h

theorem VRel.ptr_inv {n o : Nat} {v : Value} (h : VRel ρ N (.ptr (some (n, o))) v) : n < N ∧ v = .pointer (some ⟨(ρ n).block, (ρ n).off + o, none⟩) := by
  cases h; exact ⟨‹_›, rfl⟩

/-- a load by a pointer -/
theorem ld_sound {B : Nat → Bool} {σ : St} (hS : SRel B ρ σ w) {t : TypeId} {g : Bool} {size : Nat} (hg : aggT P t = some g) (hs : sizeT P t = some size) {p : AVal} {p' : Value} (hp : VRel ρ σ.next p p')
    {k : AVal → Option α} (h : ldK σ g size p k = some r) : ∃ v v', k v = some r ∧ VRel ρ σ.next v v' ∧ (Instr.loadAt t p').run P w = .ok v' w := by
  obtain ⟨n, o, wd, cs, rfl, h1, h2⟩ := ldK_some h
  obtain ⟨_, rfl⟩ := hp.ptr_inv
  obtain ⟨v, v', hk, hv, hr⟩ := (hS.obj n _ h1).2.holds.load hg hs h2
  exact ⟨v, v', hk, hv, by simpa [Instr.loadAt, Instr.sureAddr] using hr⟩

/-- a store by a pointer -/
theorem st_sound {B : Nat → Bool} {σ : St} (hS : SRel B ρ σ w) {t : TypeId} {size : Nat} (hs : sizeT P t = some size) {p : AVal} {p' : Value} (hp : VRel ρ σ.next p p') {v : AVal} {v' : Value} (hv : VRel ρ σ.next v v')
    {k : St → Option α} (h : stK σ size p v k = some r) : ∃ σ' w', k σ' = some r ∧ SRel B ρ σ' w' ∧ Step ρ σ w ρ σ' w' ∧ (Instr.storeAt t p' v').run P w = .ok () w' := by
  obtain ⟨n, o, wd, cs, rfl, hlk, h1, hd, hlen, hle, hk⟩ := stK_some h
  obtain ⟨_, rfl⟩ := hp.ptr_inv
  obtain ⟨hl, hc⟩ := hv.cells hd
  have := hS.write h1 hlk o _ _ hl hc (by omega)
  refine ⟨_, _, hk, this.1, this.2, ?_⟩
  obtain ⟨_, hw, hroom, hcell, c, el, fz, hb, hsz, hrel, hfz⟩ := hS.obj n _ h1
  have hle2 : (ρ n).off + o + size ≤ c.size := by omega
  have := run_storeVar (P := P) hs hv hd hlen hb hle2 (fun j j1 j2 => hfz j (by omega) (by omega))
  simpa [Instr.storeAt, Instr.sureAddr] using this

end
end Go.Abs
namespace Go.Abs

section
variable {P : Program} {ρ : Ren} {N : Nat} {w : World}

theorem eqKinds_len : ∀ {ks : List Kd} {xs ys : List AVal} {b : Bool}, eqKinds ks xs ys = some b → xs.length = ks.length ∧ ys.length = ks.length
  | [], [], [], _, _ => ⟨rfl, rfl⟩
  | .bool :: ks, .bool a :: xs, .bool b :: ys, r, h => by
    simp only [eqKinds, Option.map_eq_some_iff] at h
    obtain ⟨c, hc, _⟩ := h
    have := eqKinds_len hc; simp [this]
  | .int k :: ks, .int k1 a :: xs, .int k2 b :: ys, r, h => by
    simp only [eqKinds] at h
    split at h
    · simp only [Option.map_eq_some_iff] at h
      obtain ⟨c, hc, _⟩ := h
      have := eqKinds_len hc; simp [this]
    · cases h
  | .str :: ks, .str a :: xs, .str b :: ys, r, h => by
    simp only [eqKinds, Option.map_eq_some_iff] at h
    obtain ⟨c, hc, _⟩ := h
    have := eqKinds_len hc; simp [this]

theorem eqKinds_append : ∀ {k1 k2 : List Kd} {xs ys : List AVal} {b : Bool}, eqKinds (k1 ++ k2) xs ys = some b →
    ∃ b1 b2, eqKinds k1 (xs.take k1.length) (ys.take k1.length) = some b1 ∧ eqKinds k2 (xs.drop k1.length) (ys.drop k1.length) = some b2 ∧ b = (b1 && b2)
  | [], k2, xs, ys, b, h => ⟨true, b, by simp [eqKinds], by simpa using h, by simp⟩
  | .bool :: k1, k2, .bool x :: xs, .bool y :: ys, b, h => by
    simp only [List.cons_append, eqKinds, Option.map_eq_some_iff] at h
    obtain ⟨c, hc, rfl⟩ := h
    obtain ⟨b1, b2, h1, h2, rfl⟩ := eqKinds_append hc
    exact ⟨x == y && b1, b2, by simp [eqKinds, h1], by simpa using h2, by simp [Bool.and_assoc]⟩
  | .int k :: k1, k2, .int ka x :: xs, .int kb y :: ys, b, h => by
    simp only [List.cons_append, eqKinds] at h
    split at h
    · rename_i hk
      simp only [Option.map_eq_some_iff] at h
      obtain ⟨c, hc, rfl⟩ := h
      obtain ⟨b1, b2, h1, h2, rfl⟩ := eqKinds_append hc
      exact ⟨x == y && b1, b2, by simp [eqKinds, h1, hk], by simpa using h2, by simp [Bool.and_assoc]⟩
    · cases h
  | .str :: k1, k2, .str x :: xs, .str y :: ys, b, h => by
    simp only [List.cons_append, eqKinds, Option.map_eq_some_iff] at h
    obtain ⟨c, hc, rfl⟩ := h
    obtain ⟨b1, b2, h1, h2, rfl⟩ := eqKinds_append hc
    exact ⟨x == y && b1, b2, by simp [eqKinds, h1], by simpa using h2, by simp [Bool.and_assoc]⟩
  | .bool :: k1, k2, [], ys, b, h => by simp [eqKinds] at h
  | .int k :: k1, k2, [], ys, b, h => by simp [eqKinds] at h
  | .str :: k1, k2, [], ys, b, h => by simp [eqKinds] at h

/-- what '==' says of two values of a plain type, whose cells are given -/
def EqSound (P : Program) (w : World) (ρ : Ren) (N : Nat) (n : Nat) (t : TypeId) : Prop :=
  ∀ ks, kinds P n t = some ks → ∀ d, n ≤ d → ∀ (xs ys : List AVal) (xs' ys' : List Value) b, eqKinds ks xs ys = some b → LRel ρ N xs xs' → LRel ρ N ys ys' →
    (aggT P t = some true ∧ (Op.equalIn d t (.agg xs'.toArray) (.agg ys'.toArray)).run P w = .ok b w) ∨
      (aggT P t = some false ∧ ∃ x y, xs' = [x] ∧ ys' = [y] ∧ (Op.equalIn d t x y).run P w = .ok b w)

theorem run_part {t : TypeId} {g : Bool} {size : Nat} (hg : aggT P t = some g) (hs : sizeT P t = some size) (cs : List Value) (off : Nat) :
    (part t cs.toArray off).run P w = if g then .ok (.agg ((cs.drop off).take size).toArray) w else match cs[off]? with | some v => .ok v w | none => .halt (.stuck "part: no such cell") w := by
  cases g with
  | true =>
    simp only [part, Sem.run_bind, run_agg hg, Result.andThen_ok, if_true, run_size hs, Sem.run_pure]
    congr 2
    simp [List.take_drop, Nat.add_comm]
  | false =>
    simp only [part, Sem.run_bind, run_agg hg, Result.andThen_ok, Bool.false_eq_true, if_false]
    simp only [List.getElem?_toArray]
    cases cs[off]? <;> rfl

theorem eq_fields {n d : Nat} (hd : n ≤ d) (ih : ∀ t, EqSound P w ρ N n t) : ∀ (fs : List Field) (off : Nat) (ks : List Kd), kindsGo P (kinds P n) off fs = some ks →
    ∀ (xs ys : List AVal) (xs' ys' : List Value) b, eqKinds ks (xs.drop off) (ys.drop off) = some b → LRel ρ N xs xs' → LRel ρ N ys ys' →
      (Op.eqFields d xs'.toArray ys'.toArray fs).run P w = .ok b w := by
  intro fs
  induction fs with
  | nil =>
    intro off ks hk xs ys xs' ys' b hb hx hy
    simp only [kindsGo, Option.some.injEq] at hk
    subst hk
    cases h1 : xs.drop off <;> cases h2 : ys.drop off <;> rw [h1, h2] at hb <;> simp [eqKinds] at hb
    subst hb
    simp [Op.eqFields]
  | cons f fs ihf =>
    intro off ks hk xs ys xs' ys' b hb hx hy
    simp only [kindsGo] at hk
    split at hk
    · cases hk
    · rename_i hnf
      have hname : f.name ≠ "_" := fun e => hnf (.inl e)
      have hoff : f.offset = off := Classical.byContradiction fun e => hnf (.inr e)
      split at hk
      · rename_i l s m hl hs hm
        split at hk
        · rename_i hsl
          simp only [Option.some.injEq] at hk
          subst hk
          obtain ⟨b1, b2, h1, h2, rfl⟩ := eqKinds_append hb
          rw [hs] at hm
          simp only at hm
          have hrest := ihf (off + s) m hm xs ys xs' ys' b2 (by rw [hsl]; simpa [List.drop_drop] using h2) hx hy
          have key := ih f.type l hl d hd _ _ _ _ b1 h1 ((hx.drop off).take _) ((hy.drop off).take _)
          rw [Op.eqFields]
          simp only [if_pos hname, Sem.run_bind, hoff]
          rcases key with ⟨hg, hr⟩ | ⟨hg, x, y, e1, e2, hr⟩
          · simp only [run_part hg hs, if_true, Result.andThen_ok, hsl]
            rw [hr]
            simp only [Result.andThen_ok]
            cases b1
            · simp
            · simpa using hrest
          · have hx1 : xs'[off]? = some x := by
              have := congrArg (fun (q : List Value) => q[0]?) e1
              simp only [List.getElem?_take, List.getElem?_drop, List.getElem?_cons_zero, Nat.add_zero] at this
              split at this
              · exact this
              · cases this
            have hy1 : ys'[off]? = some y := by
              have := congrArg (fun (q : List Value) => q[0]?) e2
              simp only [List.getElem?_take, List.getElem?_drop, List.getElem?_cons_zero, Nat.add_zero] at this
              split at this
              · exact this
              · cases this
            simp only [run_part hg hs, Bool.false_eq_true, if_false, hx1, hy1, Result.andThen_ok]
            rw [hr]
            simp only [Result.andThen_ok]
            cases b1
            · simp
            · simpa using hrest
        · cases hk
      · cases hk

theorem eq_items {n d : Nat} (hd : n ≤ d) {e : TypeId} (ih : EqSound P w ρ N n e) {l : List Kd} {s : Nat} (hl : kinds P n e = some l) (hs : sizeT P e = some s) (hsl : s = l.length) :
    ∀ (m i : Nat) (xs ys : List AVal) (xs' ys' : List Value) b, eqKinds (List.replicate m l).flatten (xs.drop (i * s)) (ys.drop (i * s)) = some b → LRel ρ N xs xs' → LRel ρ N ys ys' →
      (Op.eqItems d e s xs'.toArray ys'.toArray (List.range' i m)).run P w = .ok b w := by
  intro m
  induction m with
  | zero =>
    intro i xs ys xs' ys' b hb hx hy
    cases h1 : xs.drop (i * s) <;> cases h2 : ys.drop (i * s) <;> rw [h1, h2] at hb <;> simp [eqKinds] at hb
    subst hb
    simp [Op.eqItems]
  | succ m ihm =>
    intro i xs ys xs' ys' b hb hx hy
    simp only [List.replicate_succ, List.flatten_cons] at hb
    obtain ⟨b1, b2, h1, h2, rfl⟩ := eqKinds_append hb
    have hrest := ihm (i + 1) xs ys xs' ys' b2 (by rw [Nat.succ_mul, hsl]; rw [hsl] at h2; simpa [List.drop_drop] using h2) hx hy
    have key := ih l hl d hd _ _ _ _ b1 h1 ((hx.drop (i * s)).take _) ((hy.drop (i * s)).take _)
    rw [List.range'_succ, Op.eqItems]
    simp only [Sem.run_bind]
    rcases key with ⟨hg, hr⟩ | ⟨hg, x, y, e1, e2, hr⟩
    · simp only [run_part hg hs, if_true, Result.andThen_ok]
      rw [show (List.take s (List.drop (i * s) xs')) = (List.take l.length (List.drop (i * s) xs')) by rw [hsl], show (List.take s (List.drop (i * s) ys')) = (List.take l.length (List.drop (i * s) ys')) by rw [hsl], hr]
      simp only [Result.andThen_ok]
      cases b1
      · simp
      · simpa using hrest
    · have hx1 : xs'[i * s]? = some x := by
        have := congrArg (fun (q : List Value) => q[0]?) e1
        simp only [List.getElem?_take, List.getElem?_drop, List.getElem?_cons_zero, Nat.add_zero] at this
        split at this
        · exact this
        · cases this
      have hy1 : ys'[i * s]? = some y := by
        have := congrArg (fun (q : List Value) => q[0]?) e2
        simp only [List.getElem?_take, List.getElem?_drop, List.getElem?_cons_zero, Nat.add_zero] at this
        split at this
        · exact this
        · cases this
      simp only [run_part hg hs, Bool.false_eq_true, if_false, hx1, hy1, Result.andThen_ok]
      rw [hr]
      simp only [Result.andThen_ok]
      cases b1
      · simp
      · simpa using hrest

theorem eq_sound : ∀ (n : Nat) (t : TypeId), EqSound P w ρ N n t := by
  intro n
  induction n with
  | zero => intro t ks hk; simp [kinds] at hk
  | succ n ih =>
    intro t ks hk d hd xs ys xs' ys' b hb hx hy
    obtain ⟨d, rfl⟩ : ∃ e, d = e + 1 := ⟨d - 1, by omega⟩
    have hd' : n ≤ d := by omega
    simp only [kinds] at hk
    split at hk
    · rename_i hu
      simp at hk; subst hk
      right
      have ⟨l1, l2⟩ := eqKinds_len hb
      obtain ⟨x, rfl⟩ : ∃ x, xs = [x] := List.length_eq_one_iff.1 (by simpa using l1)
      obtain ⟨y, rfl⟩ : ∃ y, ys = [y] := List.length_eq_one_iff.1 (by simpa using l2)
      obtain ⟨x', _, rfl, hx1, hx2⟩ := hx.cons_left
      obtain ⟨y', _, rfl, hy1, hy2⟩ := hy.cons_left
      obtain rfl := hx2.nil_left
      obtain rfl := hy2.nil_left
      cases x <;> cases y <;> simp [eqKinds] at hb
      cases hx1; cases hy1
      subst hb
      exact ⟨by simp [aggT, hu, isAggD], _, _, rfl, rfl, run_equalIn_bool' w d t _ _ hu⟩
    · rename_i k hu
      simp at hk; subst hk
      right
      have ⟨l1, l2⟩ := eqKinds_len hb
      obtain ⟨x, rfl⟩ : ∃ x, xs = [x] := List.length_eq_one_iff.1 (by simpa using l1)
      obtain ⟨y, rfl⟩ : ∃ y, ys = [y] := List.length_eq_one_iff.1 (by simpa using l2)
      obtain ⟨x', _, rfl, hx1, hx2⟩ := hx.cons_left
      obtain ⟨y', _, rfl, hy1, hy2⟩ := hy.cons_left
      obtain rfl := hx2.nil_left
      obtain rfl := hy2.nil_left
      cases x <;> cases y <;> simp [eqKinds] at hb
      cases hx1; cases hy1
      obtain ⟨rfl, rfl⟩ := hb
      exact ⟨by simp [aggT, hu, isAggD], _, _, rfl, rfl, run_equalIn_int w d t _ _ _ _ hu⟩
    · rename_i hu
      simp at hk; subst hk
      right
      have ⟨l1, l2⟩ := eqKinds_len hb
      obtain ⟨x, rfl⟩ : ∃ x, xs = [x] := List.length_eq_one_iff.1 (by simpa using l1)
      obtain ⟨y, rfl⟩ : ∃ y, ys = [y] := List.length_eq_one_iff.1 (by simpa using l2)
      obtain ⟨x', _, rfl, hx1, hx2⟩ := hx.cons_left
      obtain ⟨y', _, rfl, hy1, hy2⟩ := hy.cons_left
      obtain rfl := hx2.nil_left
      obtain rfl := hy2.nil_left
      cases x <;> cases y <;> simp [eqKinds] at hb
      cases hx1; cases hy1
      subst hb
      refine ⟨by simp [aggT, hu, isAggD], _, _, rfl, rfl, ?_⟩
      rw [run_equalIn_string w d t _ _ hu, beq_toListBytes]
    · rename_i fs hu
      split at hk
      · cases hk
      · rename_i hp
        left
        refine ⟨by simp [aggT, hu, isAggD], ?_⟩
        have hf : P.fieldsOf t = fs := by simp [Program.fieldsOf, hu]
        rw [run_equalIn_struct w d t _ _ (by rw [hf]; exact hu) (by simpa using hp), hf]
        exact eq_fields hd' ih fs.toList 0 ks hk xs ys xs' ys' b (by simpa using hb) hx hy
    · rename_i len e hu
      split at hk
      · rename_i l s hl hs
        split at hk
        · rename_i hsl
          simp at hk; subst hk
          left
          refine ⟨by simp [aggT, hu, isAggD], ?_⟩
          obtain ⟨i, hi, his⟩ : ∃ i, P.info? e = some i ∧ i.size = s := by
            simp only [sizeT, Option.map_eq_some_iff] at hs
            exact hs
          rw [run_equalIn_array w d _ _ hu hi]
          have : P.cellsOf e = s := by simp [Program.cellsOf, hi, his]
          rw [this, List.range_eq_range']
          exact eq_items hd' (ih e) hl hs hsl len 0 xs ys xs' ys' b (by simpa using hb) hx hy
        · cases hk
      · cases hk
    · cases hk

end
end Go.Abs
namespace Go.Abs

section
variable {P : Program} {ρ : Ren} {N : Nat} {w : World} {α : Type} {r : α}

theorem intOp_sound {op : BinOp} {k ky : IntKind} {x y : Int} {z : AVal} (hk : (isShift op || decide (k = ky)) = true) (h : intOp op k x y = some z) (t : TypeId) :
    ∃ v, VRel ρ N z v ∧ (binOp op t (.int k x) (.int ky y)).run P w = .ok v w := by
  cases op <;> simp only [isShift, Bool.false_or, decide_eq_true_eq, Bool.true_or] at hk
  case shl | shr =>
    simp only [intOp] at h
    split at h <;> simp at h
    rename_i hy
    subst h
    exact ⟨_, .int _ _, by simp [binOp, Op.shift, hy]⟩
  all_goals subst hk
  case quo | rem =>
    simp only [intOp] at h
    split at h <;> simp at h
    rename_i hy
    subst h
    exact ⟨_, .int _ _, by simp [binOp, Op.intDiv, hy]⟩
  all_goals
    simp only [intOp, Option.some.injEq] at h
    subst h
  case eql | neq | lss | leq | gtr | geq => exact ⟨_, .bool _, by simp [binOp, Op.intCmp]⟩
  case add | sub | mul => exact ⟨_, .int _ _, by simp [binOp, Op.intArith]⟩
  case and | or | xor | andNot => exact ⟨_, .int _ _, by simp [binOp, Op.intBits]⟩

theorem eqGuard_int (op : BinOp) (t : TypeId) (x y : Operand) (k k' : IntKind) (m n : Int) : (eqGuard op t x y (.int k m) (.int k' n)).run P w = .ok () w := by
  unfold eqGuard
  cases op <;> simp

theorem eqGuard_str (op : BinOp) (t : TypeId) (x y : Operand) (a b : ByteArray) : (eqGuard op t x y (.string a) (.string b)).run P w = .ok () w := by
  unfold eqGuard
  cases op <;> simp


set_option maxHeartbeats 1000000 in
theorem eqV_sound {t : TypeId} {op : BinOp} {x y : Operand} {v u : AVal} {v' u' : Value} {b : Bool} (hs : (shapeEq P t v && shapeEq P t u) = true) (h : eqV P t (isConstO x || isConstO y) v u = some b)
    (hv : VRel ρ N v v') (hu : VRel ρ N u u') :
    (eqGuard op t x y v' u').run P w = .ok () w ∧ (op = .eql → (binOp op t v' u').run P w = .ok (.bool b) w) ∧ (op = .neq → (binOp op t v' u').run P w = .ok (.bool (!b)) w) := by
  simp only [Bool.and_eq_true] at hs
  obtain ⟨s1, s2⟩ := hs
  have fin1 : ∀ (x y : Value) (c : Bool), (binOp .eql t x y = do pure (.bool (← Op.equal t x y))) → (Op.equalIn (9999 + 1) t x y).run P w = .ok c w → (binOp .eql t x y).run P w = .ok (.bool c) w := fun x y c h1 h2 => by
    rw [h1]; simp only [Op.equal, Op.maxDepth, Sem.run_bind, h2, Result.andThen_ok, Sem.run_pure]
  have fin2 : ∀ (x y : Value) (c : Bool), (binOp .neq t x y = do pure (.bool (!(← Op.equal t x y)))) → (Op.equalIn (9999 + 1) t x y).run P w = .ok c w → (binOp .neq t x y).run P w = .ok (.bool (!c)) w := fun x y c h1 h2 => by
    rw [h1]; simp only [Op.equal, Op.maxDepth, Sem.run_bind, h2, Result.andThen_ok, Sem.run_pure]
  cases hv with
  | bool b1 =>
    cases hu <;> simp [eqV] at h
    subst h
    have ht : P.underlying t = some .bool := by
      unfold shapeEq at s1; split at s1 <;> simp_all
    refine ⟨by cases op <;> simp [eqGuard], fun e => ?_, fun e => ?_⟩ <;> subst e <;> simp [binOp, run_equal_bool w t _ _ ht]
  | nilptr =>
    have ht : ∃ e, P.underlying t = some (.pointer e) := by
      unfold shapeEq at s1; split at s1 <;> simp_all
    obtain ⟨e, ht⟩ := ht
    cases hu <;> simp [eqV] at h
    all_goals
      subst h
      exact ⟨by cases op <;> simp [eqGuard], fun e => by subst e; exact fin1 _ _ _ rfl (by rw [Op.equalIn]; simp only [Sem.run_bind, run_und ht, Result.andThen_ok]; rfl), fun e => by subst e; exact fin2 _ _ _ rfl (by rw [Op.equalIn]; simp only [Sem.run_bind, run_und ht, Result.andThen_ok]; rfl)⟩
  | ptr o hn =>
    have ht : ∃ e, P.underlying t = some (.pointer e) := by
      unfold shapeEq at s1; split at s1 <;> simp_all
    obtain ⟨e, ht⟩ := ht
    cases hu <;> simp [eqV] at h
    all_goals
      subst h
      exact ⟨by cases op <;> simp [eqGuard], fun e => by subst e; exact fin1 _ _ _ rfl (by rw [Op.equalIn]; simp only [Sem.run_bind, run_und ht, Result.andThen_ok]; rfl), fun e => by subst e; exact fin2 _ _ _ rfl (by rw [Op.equalIn]; simp only [Sem.run_bind, run_und ht, Result.andThen_ok]; rfl)⟩
  | nilIface =>
    have ht : ∃ e, P.underlying t = some (.interface e) := by
      unfold shapeEq at s1; split at s1 <;> simp_all
    obtain ⟨e, ht⟩ := ht
    cases hu <;> simp [eqV] at h
    · subst h
      exact ⟨by cases op <;> simp [eqGuard], fun e => by subst e; exact fin1 _ _ _ rfl (by rw [Op.equalIn]; simp only [Sem.run_bind, run_und ht, Result.andThen_ok]; rfl), fun e => by subst e; exact fin2 _ _ _ rfl (by rw [Op.equalIn]; simp only [Sem.run_bind, run_und ht, Result.andThen_ok]; rfl)⟩
    · obtain ⟨h, rfl⟩ := h
      refine ⟨?_, fun e => ?_, fun e => ?_⟩
      · cases op <;> simp [eqGuard]
        all_goals
          cases x <;> cases y <;> simp_all [isConstO]
      all_goals
        subst e; first | exact fin1 _ _ _ rfl (by rw [Op.equalIn]; simp only [Sem.run_bind, run_und ht, Result.andThen_ok]; rfl) | exact fin2 _ _ _ rfl (by rw [Op.equalIn]; simp only [Sem.run_bind, run_und ht, Result.andThen_ok]; rfl)
  | iface ti hvi =>
    have ht : ∃ e, P.underlying t = some (.interface e) := by
      unfold shapeEq at s1; split at s1 <;> simp_all
    obtain ⟨e, ht⟩ := ht
    cases hu <;> simp [eqV] at h
    subst h
    exact ⟨by cases op <;> simp [eqGuard], fun e => by subst e; exact fin1 _ _ _ rfl (by rw [Op.equalIn]; simp only [Sem.run_bind, run_und ht, Result.andThen_ok]; rfl), fun e => by subst e; exact fin2 _ _ _ rfl (by rw [Op.equalIn]; simp only [Sem.run_bind, run_und ht, Result.andThen_ok]; rfl)⟩
  | nilFunc =>
    have ht : ∃ a b c, P.underlying t = some (.func a b c) := by
      unfold shapeEq at s1; split at s1 <;> simp_all
    obtain ⟨p, q, e, ht⟩ := ht
    cases hu <;> simp [eqV] at h
    all_goals
      subst h
      exact ⟨by cases op <;> simp [eqGuard], fun e => by subst e; exact fin1 _ _ _ rfl (by rw [Op.equalIn]; simp only [Sem.run_bind, run_und ht, Result.andThen_ok]; rfl), fun e => by subst e; exact fin2 _ _ _ rfl (by rw [Op.equalIn]; simp only [Sem.run_bind, run_und ht, Result.andThen_ok]; rfl)⟩
  | func fn h1 h2 h3 h4 =>
    have ht : ∃ a b c, P.underlying t = some (.func a b c) := by
      unfold shapeEq at s1; split at s1 <;> simp_all
    obtain ⟨p, q, e, ht⟩ := ht
    cases hu <;> simp [eqV] at h
    all_goals
      subst h
      exact ⟨by cases op <;> simp [eqGuard], fun e => by subst e; exact fin1 _ _ _ rfl (by rw [Op.equalIn]; simp only [Sem.run_bind, run_und ht, Result.andThen_ok]; rfl), fun e => by subst e; exact fin2 _ _ _ rfl (by rw [Op.equalIn]; simp only [Sem.run_bind, run_und ht, Result.andThen_ok]; rfl)⟩
  | nilslice =>
    have ht : ∃ e, P.underlying t = some (.slice e) := by
      unfold shapeEq at s1; split at s1 <;> simp_all
    obtain ⟨e, ht⟩ := ht
    cases hu <;> simp [eqV] at h
    all_goals
      subst h
      exact ⟨by cases op <;> simp [eqGuard], fun e => by subst e; exact fin1 _ _ _ rfl (by rw [Op.equalIn]; simp only [Sem.run_bind, run_und ht, Result.andThen_ok]; rfl), fun e => by subst e; exact fin2 _ _ _ rfl (by rw [Op.equalIn]; simp only [Sem.run_bind, run_und ht, Result.andThen_ok]; rfl)⟩
  | slice o len cap hn hl hr =>
    have ht : ∃ e, P.underlying t = some (.slice e) := by
      unfold shapeEq at s1; split at s1 <;> simp_all
    obtain ⟨e, ht⟩ := ht
    cases hu <;> simp [eqV] at h
    all_goals
      subst h
      exact ⟨by cases op <;> simp [eqGuard], fun e => by subst e; exact fin1 _ _ _ rfl (by rw [Op.equalIn]; simp only [Sem.run_bind, run_und ht, Result.andThen_ok]; rfl), fun e => by subst e; exact fin2 _ _ _ rfl (by rw [Op.equalIn]; simp only [Sem.run_bind, run_und ht, Result.andThen_ok]; rfl)⟩
  | slice0 o a hn =>
    have ht : ∃ e, P.underlying t = some (.slice e) := by
      unfold shapeEq at s1; split at s1 <;> simp_all
    obtain ⟨e, ht⟩ := ht
    cases hu <;> simp [eqV] at h
    all_goals
      subst h
      exact ⟨by cases op <;> simp [eqGuard], fun e => by subst e; exact fin1 _ _ _ rfl (by rw [Op.equalIn]; simp only [Sem.run_bind, run_und ht, Result.andThen_ok]; rfl), fun e => by subst e; exact fin2 _ _ _ rfl (by rw [Op.equalIn]; simp only [Sem.run_bind, run_und ht, Result.andThen_ok]; rfl)⟩
  | nilmap =>
    have ht : ∃ k e, P.underlying t = some (.map k e) := by
      unfold shapeEq at s1; split at s1 <;> simp_all
    obtain ⟨q, e, ht⟩ := ht
    cases hu <;> simp [eqV] at h
    all_goals
      subst h
      exact ⟨by cases op <;> simp [eqGuard], fun e => by subst e; exact fin1 _ _ _ rfl (by rw [Op.equalIn]; simp only [Sem.run_bind, run_und ht, Result.andThen_ok]; rfl), fun e => by subst e; exact fin2 _ _ _ rfl (by rw [Op.equalIn]; simp only [Sem.run_bind, run_und ht, Result.andThen_ok]; rfl)⟩
  | map hn =>
    have ht : ∃ k e, P.underlying t = some (.map k e) := by
      unfold shapeEq at s1; split at s1 <;> simp_all
    obtain ⟨q, e, ht⟩ := ht
    cases hu <;> simp [eqV] at h
    all_goals
      subst h
      exact ⟨by cases op <;> simp [eqGuard], fun e => by subst e; exact fin1 _ _ _ rfl (by rw [Op.equalIn]; simp only [Sem.run_bind, run_und ht, Result.andThen_ok]; rfl), fun e => by subst e; exact fin2 _ _ _ rfl (by rw [Op.equalIn]; simp only [Sem.run_bind, run_und ht, Result.andThen_ok]; rfl)⟩
  | agg hl1 hc1 h1 =>
    rename_i l1 a1
    cases hu with
    | agg hl2 hc2 h2 =>
      rename_i l2 a2
      simp only [eqV] at h
      split at h
      · rename_i ks hg hag hk
        rcases eq_sound (P := P) (ρ := ρ) (N := N) (w := w) 20 t ks hk 10000 (by omega) l1 l2 a1.toList a2.toList b h (LRel.of_array hl1 h1) (LRel.of_array hl2 h2) with ⟨_, hr⟩ | ⟨hf, _⟩
        · simp only [Array.toArray_toList] at hr
          refine ⟨run_eqGuard_agg w op t x y a1 a2 hg, fun e => ?_, fun e => ?_⟩
          · subst e; rw [run_eql_struct, hr]; rfl
          · subst e; rw [run_neq_struct, hr]; rfl
        · rw [hag] at hf; cases hf
      · cases h
    | _ => simp [eqV] at h
  | int => simp [eqV] at h
  | str => simp [eqV] at h
  | tuple hl1 h1 => simp [eqV] at h

theorem eqK_sound {t : TypeId} {op : BinOp} {x y : Operand} {v u : AVal} {v' u' : Value} {k : AVal → Option α} (hm : eqK P op t (isConstO x || isConstO y) v u k = some r)
    (hv : VRel ρ N v v') (hu : VRel ρ N u u') : ∃ z z', k z = some r ∧ VRel ρ N z z' ∧ (do eqGuard op t x y v' u'; binOp op t v' u' : Sem Value).run P w = .ok z' w := by
  unfold eqK at hm
  split at hm
  · rename_i hs hb
    obtain ⟨h1, h2, _⟩ := eqV_sound (w := w) (op := .eql) hs hb hv hu
    exact ⟨_, _, hm, .bool _, by simp only [Sem.run_bind, h1, Result.andThen_ok]; exact h2 rfl⟩
  · rename_i hs hb
    obtain ⟨h1, _, h2⟩ := eqV_sound (w := w) (op := .neq) hs hb hv hu
    exact ⟨_, _, hm, .bool _, by simp only [Sem.run_bind, h1, Result.andThen_ok]; exact h2 rfl⟩
  · cases hm

theorem binK_sound {t : TypeId} {op : BinOp} {x y : Operand} {v u : AVal} {v' u' : Value} {k : AVal → Option α} (h : binK P op t (isConstO x || isConstO y) v u k = some r)
    (hv : VRel ρ N v v') (hu : VRel ρ N u u') : ∃ z z', k z = some r ∧ VRel ρ N z z' ∧ (do eqGuard op t x y v' u'; binOp op t v' u' : Sem Value).run P w = .ok z' w := by
  have other : eqK P op t (isConstO x || isConstO y) v u k = some r → ∃ z z', k z = some r ∧ VRel ρ N z z' ∧ (do eqGuard op t x y v' u'; binOp op t v' u' : Sem Value).run P w = .ok z' w := fun hm => eqK_sound hm hv hu
  cases hv with
  | int kx a =>
    cases hu with
    | int ky b =>
      simp only [binK] at h
      split at h
      · rename_i hk hz
        obtain ⟨z', hz1, hz2⟩ := intOp_sound (P := P) (ρ := ρ) (N := N) (w := w) hk hz t
        exact ⟨_, z', h, hz1, by simp only [Sem.run_bind, eqGuard_int, Result.andThen_ok]; exact hz2⟩
      · cases h
    | _ => exact other h
  | str a =>
    cases hu with
    | str b =>
      simp only [Sem.run_bind, eqGuard_str, Result.andThen_ok]
      cases op <;> simp only [binK] at h
      case add =>
        split at h
        · cases h
        · rename_i hs
          exact ⟨_, _, h, .str _, by simp only [binOp, Op.stringOp, if_neg hs, Sem.run_pure]⟩
      all_goals first
        | (cases h; done)
        | exact ⟨_, _, h, .bool _, by simp [binOp, Op.stringOp, ByteArray.toList_eq]⟩
    | _ => exact other h
  | bool b => exact other h
  | nilptr => exact other h
  | ptr o hn => exact other h
  | nilslice => exact other h
  | slice o l c hn hl hr => exact other h
  | slice0 o a hn => exact other h
  | nilmap => exact other h
  | map hn => exact other h
  | func fn h1 h2 h3 h4 => exact other h
  | nilFunc => exact other h
  | iface t hv => exact other h
  | nilIface => exact other h
  | agg h1 h2 h3 => exact other h
  | tuple h1 h2 => exact other h

theorem unK_sound {op : UnOp} {v : AVal} {v' : Value} {k : AVal → Option α} (h : unK op v k = some r) (hv : VRel ρ N v v') :
    ∃ z z', k z = some r ∧ VRel ρ N z z' ∧ (Op.unary op v').run P w = .ok z' w := by
  unfold unK at h
  split at h <;> first | (cases hv; exact ⟨_, _, h, .int _ _, by simp [Op.unary, Op.intArith, Op.intBits]⟩) | (cases hv; exact ⟨_, _, h, .bool _, by simp [Op.unary]⟩) | cases h

theorem convK_sound {s d : TypeId} {v : AVal} {v' : Value} {k : AVal → Option α} (h : convK P s d v k = some r) (hv : VRel ρ N v v') :
    ∃ z z', k z = some r ∧ VRel ρ N z z' ∧ (convert s d v').run P w = .ok z' w := by
  unfold convK at h
  split at h
  · rename_i hs hd
    cases hv
    exact ⟨_, _, h, .int _ _, by simp [convert, run_und hs, run_und hd, Conv.intToInt]⟩
  · rename_i hs hd
    cases hv
    exact ⟨_, _, h, .str _, by simp [convert, run_und hs, run_und hd]⟩
  · cases h

theorem extractK_sound {i : Nat} {v : AVal} {v' : Value} {k : AVal → Option α} (h : extractK v i k = some r) (hv : VRel ρ N v v') :
    ∃ z z', k z = some r ∧ VRel ρ N z z' ∧ (Instr.extract v' i).run P w = .ok z' w := by
  unfold extractK at h
  split at h
  · split at h
    · rename_i vs x hx
      cases hv with
      | tuple hl hr =>
        rename_i a
        have hi : i < a.size := by rw [← hl]; exact (List.getElem?_eq_some_iff.1 hx).1
        have ha : a[i]? = some a[i] := Array.getElem?_eq_getElem hi
        exact ⟨x, a[i], h, hr i x _ hx ha, by simp [Instr.extract, ha]⟩
    · cases h
  · cases h

theorem ncK_sound {v : AVal} {v' : Value} {k : Unit → Option α} (h : ncK v k = some r) (hv : VRel ρ N v v') (o : Oper) (x : Operand) (a : Act) (he : a.eval x = v') (ho : o.op = .nilCheck x) :
    k () = some r ∧ (execOp a.eval o).run P w = .ok (.value v') w := by
  unfold ncK at h
  have key : k () = some r ∧ (∀ p, v' ≠ .pointer none ∨ p ≠ 0) ∧ v' ≠ .pointer none ∧ v' ≠ .nilIface ∧ v' ≠ .nilFunc ∧ ∀ n f c, v' ≠ .func (.method n) f c := by
    cases hv <;> (try simp at h) <;> first | (refine ⟨h, ?_, ?_, ?_, ?_, ?_⟩ <;> simp; done) | skip
    rename_i fn f c f' c' hf hc h1 h2
    cases fn <;> first | (cases h; done) | (refine ⟨h, ?_, ?_, ?_, ?_, ?_⟩ <;> simp)
  obtain ⟨hk, _, n1, n2, n3, n4⟩ := key
  refine ⟨hk, ?_⟩
  simp only [execOp, ho, he]
  rfl

end
end Go.Abs
namespace Go.Abs

section
variable {P : Program} {ρ : Ren} {N : Nat} {w : World} {α : Type} {r : α} {B : Nat → Bool} {σ : St}

theorem fill_sound {place : Nat → Option (Nat × Nat)} {ρ : Ren} {N : Nat} : ∀ {ps : List (Nat × AVal)} {ps' : List (Nat × Value)} {cs : List AVal} {cs' : Array Value} {k : List AVal → Option α},
    fillK place ps cs k = some r → All2 (fun (p : Nat × AVal) (q : Nat × Value) => p.1 = q.1 ∧ VRel ρ N p.2 q.2) ps ps' → LRel ρ N cs cs'.toList → (∀ x ∈ cs, x.isCell = true) →
    ∃ ds ds', k ds = some r ∧ LRel ρ N ds ds'.toList ∧ (∀ x ∈ ds, x.isCell = true) ∧ ds.length = cs.length ∧ Instr.fill place cs' ps' = some ds' := by
  intro ps
  induction ps with
  | nil =>
    intro ps' cs cs' k h hp hc h1
    obtain rfl := hp.nil_left
    simp only [fillK] at h
    exact ⟨cs, cs', h, hc, h1, rfl, rfl⟩
  | cons p ps ih =>
    obtain ⟨i, v⟩ := p
    intro ps' cs cs' k h hp hc h1
    obtain ⟨⟨i', v'⟩, ps'', rfl, ⟨rfl, hv⟩, hps⟩ := hp.cons_left
    simp only [fillK] at h
    split at h
    · rename_i off size hpl
      obtain ⟨hd, hlen, hle, hk⟩ := putK_some h
      obtain ⟨hl, hcell⟩ := hv.cells hd
      have hsz : v'.cells.size = size := by have := hl.1; simp at this; omega
      have hcs := hc.1
      simp at hcs
      -- the concrete cells
      have key : ∀ (vs : List Value) (j : Nat) (arr : Array Value), off + j + vs.length ≤ arr.size →
          ((vs.zipIdx j).foldl (fun cs (c, j) => cs.setIfInBounds (off + j) c) arr).toList = arr.toList.take (off + j) ++ vs ++ arr.toList.drop (off + j + vs.length) := by
        intro vs
        induction vs with
        | nil => intro j arr _; simp
        | cons x vs ihv =>
          intro j arr hle
          simp only [List.length_cons] at hle
          simp only [List.zipIdx_cons, List.foldl_cons]
          rw [ihv (j + 1) _ (by simp; omega)]
          apply List.ext_getElem?
          intro m
          rw [getElem?_writeL _ _ _ (by simp; omega)]
          have := getElem?_writeL arr.toList (off + j) (x :: vs) (by simp; omega) m
          simp only [List.length_cons] at this ⊢
          rw [this]
          by_cases i2 : m = off + j
          · subst i2
            rw [if_neg (by omega), if_pos (by omega)]
            simp only [Array.toList_setIfInBounds, List.getElem?_set, Array.length_toList, if_true, Nat.sub_self, List.getElem?_cons_zero]
            rw [if_pos (by omega)]
          · by_cases i3 : off + (j + 1) ≤ m ∧ m < off + (j + 1) + vs.length
            · rw [if_pos i3, if_pos (by omega), show m - (off + j) = (m - (off + (j + 1))) + 1 by omega, List.getElem?_cons_succ]
            · rw [if_neg i3, if_neg (by omega)]
              simp only [Array.toList_setIfInBounds, List.getElem?_set]
              rw [if_neg (fun e => i2 e.symm)]
      have hk2 := key v'.cells.toList 0 cs' (by simp; omega)
      simp only [Nat.add_zero] at hk2
      obtain ⟨ds, ds', g1, g2, g3, g4, g5⟩ := ih (cs := writeL cs off v.cells) (cs' := (v'.cells.zipIdx.foldl (fun cs (c, j) => cs.setIfInBounds (off + j) c) cs')) hk hps (by
        rw [← Array.foldl_toList, Array.toList_zipIdx, hk2]
        exact hc.write hl off) (isCell_writeL h1 hcell)
      refine ⟨ds, ds', g1, g2, g3, by rw [g4, length_writeL _ _ _ (by omega)], ?_⟩
      simp only [Instr.fill, hpl]
      rw [if_neg (by simp; omega)]
      exact g5
    · cases h

theorem zeroT_rel {t : TypeId} {z : List AVal} (h : zeroT P t = some z) : ∃ i v, P.info? t = some i ∧ i.zero = some v ∧ LRel ρ N z v.cells.toList ∧ ∀ x ∈ z, x.isCell = true := by
  unfold zeroT at h
  split at h
  · rename_i i hi
    split at h
    · rename_i v hv
      split at h
      · rename_i a ha
        split at h
        · rename_i hd
          simp at h; subst h
          exact ⟨i, v, hi, hv, (VRel.of_const ha).cells hd⟩
        · cases h
      · cases h
    · cases h
  · cases h

theorem run_zero {t : TypeId} {i : TypeInfo} {v : Value} (hi : P.info? t = some i) (hv : i.zero = some v) : (zeroValue t).run P w = .ok v w := by simp [zeroValue, typeInfo, hi, hv]

theorem zeroV_rel {t : TypeId} {z : AVal} (h : zeroV P t = some z) : ∃ v, VRel ρ N z v ∧ (zeroValue t).run P w = .ok v w := by
  unfold zeroV at h
  split at h
  · rename_i i hi
    simp only [Option.bind_eq_some_iff] at h
    obtain ⟨v, hv, hz⟩ := h
    exact ⟨v, VRel.of_const hz, run_zero hi hv⟩
  · cases h

end
end Go.Abs
namespace Go.Abs

section
variable {P : Program} {ρ : Ren} {N : Nat} {w : World} {α : Type} {r : α} {B : Nat → Bool} {σ : St}

theorem VRel.slice_inv {a : Option (Nat × Nat)} {len : Nat} {v : Value} (h : VRel ρ N (.slice a len) v) :
    ∃ a' cap, v = .slice a' len cap ∧ len ≤ cap ∧ ((a = none ∧ len = 0 ∧ a' = none ∧ cap = 0) ∨
      ∃ n o, a = some (n, o) ∧ n < N ∧ ((a' = some ⟨(ρ n).block, (ρ n).off + o, none⟩ ∧ ((ρ n).w ≠ 0 → o + cap * (ρ n).w ≤ (ρ n).room)) ∨ (len = 0 ∧ cap = 0 ∧ ∃ p, a' = some p))) := by
  cases h with
  | nilslice => exact ⟨none, 0, rfl, Nat.le_refl _, .inl ⟨rfl, rfl, rfl, rfl⟩⟩
  | slice o len cap hn hl hr => exact ⟨_, cap, rfl, hl, .inr ⟨_, o, rfl, hn, .inl ⟨rfl, hr⟩⟩⟩
  | slice0 o a hn => exact ⟨_, 0, rfl, Nat.le_refl _, .inr ⟨_, o, rfl, hn, .inr ⟨rfl, rfl, _, rfl⟩⟩⟩

theorem boundK_some {v : Option AVal} {v' : Option Value} (hv : match v, v' with | none, none => True | some a, some b => VRel ρ N a b | _, _ => False) {d hi : Nat} {k : Nat → Option α} (h : boundK v d hi k = some r) :
    (v = none ∧ v' = none ∧ k d = some r) ∨ ∃ kd i, v' = some (.int kd i) ∧ 0 ≤ i ∧ i ≤ hi ∧ k i.toNat = some r := by
  unfold boundK at h
  split at h
  · cases v' with
    | none => exact .inl ⟨rfl, rfl, h⟩
    | some b => exact hv.elim
  · split at h
    · rename_i hc
      cases v' with
      | none => exact hv.elim
      | some b => cases hv; exact .inr ⟨_, _, rfl, hc.1, hc.2, h⟩
    · cases h
  · cases h

theorem run_sliceBound {kd : IntKind} {i : Int} {y : Nat} (h0 : 0 ≤ i) (h1 : i ≤ y) (c : BoundsCode) : (Instr.sliceBound (.int kd i) y c).run P w = .ok i.toNat w := by
  simp [Instr.sliceBound, asIntOf, h0, h1]

def OptRel (ρ : Ren) (N : Nat) (v : Option AVal) (v' : Option Value) : Prop := match v, v' with | none, none => True | some a, some b => VRel ρ N a b | _, _ => False

/-- the two bounds of a slice, and the value that the model makes of them -/
theorem bounds_sound {lo hi : Option AVal} {lo' hi' : Option Value} (hlo : OptRel ρ N lo lo') (hhi : OptRel ρ N hi hi') {len cap : Nat} (hle : len ≤ cap) (isS : Bool) {k : Nat → Nat → Option α}
    (h : boundK hi len len (fun hh => boundK lo 0 hh fun l => k hh l) = some r) :
    ∃ hh l, k hh l = some r ∧ l ≤ hh ∧ hh ≤ len ∧ (Instr.sliceBounds isS len cap lo' hi' none).run P w = .ok (l, hh, cap) w := by
  have hi2 : ∃ hh, hh ≤ len ∧ boundK lo 0 hh (fun l => k hh l) = some r ∧ (match hi' with | some v => Instr.sliceBound v cap (if isS then .sliceAcap else .sliceAlen) | none => pure len : Sem Nat).run P w = .ok hh w := by
    rcases boundK_some hhi h with ⟨_, rfl, hk⟩ | ⟨kd, i, rfl, h0, h1, hk⟩
    · exact ⟨len, Nat.le_refl _, hk, rfl⟩
    · refine ⟨i.toNat, by omega, hk, run_sliceBound h0 (by omega) _⟩
  obtain ⟨hh, hle1, hk, hr1⟩ := hi2
  have lo2 : ∃ l, l ≤ hh ∧ k hh l = some r ∧ (match lo' with | some v => Instr.sliceBound v hh .sliceB | none => pure 0 : Sem Nat).run P w = .ok l w := by
    rcases boundK_some hlo hk with ⟨_, rfl, hk⟩ | ⟨kd, i, rfl, h0, h1, hk⟩
    · exact ⟨0, Nat.zero_le _, hk, rfl⟩
    · exact ⟨i.toNat, by omega, hk, run_sliceBound h0 h1 _⟩
  obtain ⟨l, hle2, hk2, hr2⟩ := lo2
  refine ⟨hh, l, hk2, hle2, hle1, ?_⟩
  unfold Instr.sliceBounds
  cases hi' <;> cases lo' <;> simp only [Sem.run_pure, Result.ok.injEq, and_true] at hr1 hr2 <;>
    first
      | (subst hr1; subst hr2; rfl)
      | (subst hr1; simp only [Sem.run_bind, Sem.run_pure, Result.andThen_ok, Option.isSome_none, Bool.false_eq_true, if_false, hr2]; done)
      | (subst hr2; simp only [Sem.run_bind, Sem.run_pure, Result.andThen_ok, Option.isSome_none, Bool.false_eq_true, if_false, hr1]; done)
      | (simp only [Sem.run_bind, Sem.run_pure, Result.andThen_ok, Option.isSome_none, Bool.false_eq_true, if_false, hr1, hr2]; done)

theorem VRel.slice_moved (hS : SRel B ρ σ w) {n o len cap : Nat} (hn : n < σ.next) (hr : (ρ n).w ≠ 0 → o + cap * (ρ n).w ≤ (ρ n).room) {size l hh : Nat} (hl : l ≤ hh) (hh1 : hh ≤ len) (hc : len ≤ cap)
    (hw : (ρ n).w = 0 ∨ (ρ n).w = size) :
    VRel ρ σ.next (.slice (some (n, o + l * size)) (hh - l)) (.slice (if cap = l then some ⟨(ρ n).block, (ρ n).off + o, none⟩ else some ((⟨(ρ n).block, (ρ n).off + o, none⟩ : Addr).add (l * size))) (hh - l) (cap - l)) := by
  by_cases e : cap = l
  · rw [if_pos e]
    have e1 : hh - l = 0 := by omega
    have e2 : cap - l = 0 := by omega
    rw [e1, e2]
    exact .slice0 _ _ hn
  · rw [if_neg e, addr_add, Nat.add_assoc]
    refine .slice _ _ _ hn (by omega) fun h0 => ?_
    rcases hw with hw | hw
    · exact absurd hw h0
    · have := hr h0
      rw [hw] at this ⊢
      have e3 : cap * size = l * size + (cap - l) * size := by rw [← Nat.add_mul]; congr 1; omega
      omega

theorem sliceK_sound (hS : SRel B ρ σ w) {t : TypeId} {x : AVal} {x' : Value} (hx : VRel ρ σ.next x x') {lo hi : Option AVal} {lo' hi' : Option Value} (hlo : OptRel ρ σ.next lo lo') (hhi : OptRel ρ σ.next hi hi')
    {k : AVal → Option α} (h : sliceK P σ t x lo hi k = some r) : ∃ z z', k z = some r ∧ VRel ρ σ.next z z' ∧ (Instr.sliceAt t x' lo' hi' none).run P w = .ok z' w := by
  unfold sliceK at h
  split at h
  · rename_i ht
    cases hx
    rename_i s
    obtain ⟨hh, l, hk, h1, h2, hr⟩ := bounds_sound (P := P) (w := w) hlo hhi (Nat.le_refl s.size) false (k := fun h l => k (.str (s.extract l h))) h
    exact ⟨_, _, hk, .str _, by simp [Instr.sliceAt, Instr.slice, run_und ht, hr]⟩
  · rename_i e a len ht
    split at h
    · rename_i size hs
      obtain ⟨a', cap, rfl, hc, hcase⟩ := hx.slice_inv
      cases hlo' : lo with
      | none =>
        rw [hlo'] at h hlo
        simp only at h
        have hlo2 : lo' = none := by cases lo' with | none => rfl | some v => exact hlo.elim
        subst hlo2
        obtain ⟨hh, l, hk, h1, h2, hr⟩ := bounds_sound (P := P) (w := w) (lo := none) (lo' := none) trivial hhi hc true (k := fun h l => if l = 0 then k (.slice a h) else none) (by
          unfold boundK at h ⊢
          cases hi with
          | none => simpa [boundK] using h
          | some v => cases v <;> simp only at h ⊢ <;> first | (cases h; done) | (split at h <;> first | (simp [boundK, *]; done) | (cases h; done)))
        split at hk
        · rename_i hl0
          subst hl0
          refine ⟨_, .slice a' hh cap, hk, ?_, ?_⟩
          · rcases hcase with ⟨rfl, rfl, rfl, rfl⟩ | ⟨n, o, rfl, hn, ⟨rfl, hroom⟩ | ⟨rfl, rfl, p, rfl⟩⟩
            · have : hh = 0 := by omega
              subst this; exact .nilslice
            · exact .slice _ _ _ hn (by omega) hroom
            · have : hh = 0 := by omega
              subst this; exact .slice0 _ _ hn
          · simp only [Instr.sliceAt, Sem.run_bind, run_und ht, Result.andThen_ok, Instr.slice, hr, run_size hs, Sem.run_pure, Nat.sub_zero, Nat.zero_mul]
            cases a' with
            | none => simp
            | some p => simp [Addr.add]
        · cases hk
      | some lv =>
        rw [hlo'] at h hlo
        simp only at h
        cases a with
        | none =>
          rcases hcase with ⟨_, rfl, rfl, rfl⟩ | ⟨n, o, h', _⟩
          · obtain ⟨hh, l, hk, h1, h2, hr⟩ := bounds_sound (P := P) (w := w) hlo hhi (Nat.le_refl 0) true (k := fun h l => k (.slice none 0)) h
            have e1 : hh = 0 := by omega
            have e2 : l = 0 := by omega
            subst e1; subst e2
            exact ⟨_, .slice none 0 0, hk, .nilslice, by simp [Instr.sliceAt, Instr.slice, run_und ht, hr, run_size hs]⟩
          · cases h'
        | some no =>
          obtain ⟨n, o⟩ := no
          obtain ⟨hh, l, hk, h1, h2, hr⟩ := bounds_sound (P := P) (w := w) hlo hhi hc true (k := fun h l => cellsK σ n fun w _ => if w = 0 ∨ w = size then k (.slice (some (n, o + l * size)) (h - l)) else none) h
          obtain ⟨wd, cs, hg, hk⟩ := cellsK_some hk
          split at hk
          · rename_i hw
            have hwd : (ρ n).w = wd := (hS.obj n _ hg).2.1
            rcases hcase with ⟨h', _⟩ | ⟨n', o', he, hn, ⟨rfl, hroom⟩ | ⟨rfl, rfl, p, rfl⟩⟩
            · cases h'
            · simp at he; obtain ⟨rfl, rfl⟩ := he
              refine ⟨_, _, hk, VRel.slice_moved hS hn hroom h1 h2 hc (by rw [hwd]; exact hw), ?_⟩
              simp only [Instr.sliceAt, Sem.run_bind, run_und ht, Result.andThen_ok, Instr.slice, hr, run_size hs, Sem.run_pure, Option.map_some]
            · simp at he; obtain ⟨rfl, rfl⟩ := he
              have e1 : hh = 0 := by omega
              have e2 : l = 0 := by omega
              subst e1; subst e2
              exact ⟨_, .slice (some p) 0 0, hk, .slice0 _ _ hn, by simp [Instr.sliceAt, Instr.slice, run_und ht, hr, run_size hs]⟩
          · cases hk
    · cases h
  · rename_i m e b o ht
    split at h
    · rename_i size hs
      obtain ⟨hn, rfl⟩ := hx.ptr_inv
      obtain ⟨hh, l, hk, h1, h2, hr⟩ := bounds_sound (P := P) (w := w) hlo hhi (Nat.le_refl m) false (k := fun h l => cellsK σ b fun w _ => if w = 0 then k (.slice (some (b, o + l * size)) (h - l)) else none) h
      obtain ⟨wd, cs, hg, hk⟩ := cellsK_some hk
      split at hk
      · rename_i hw
        have hwd : (ρ b).w = 0 := by rw [(hS.obj b _ hg).2.1]; exact hw
        refine ⟨_, _, hk, VRel.slice_moved hS hn (cap := m) (fun h => absurd hwd h) h1 h2 (Nat.le_refl _) (.inl hwd), ?_⟩
        simp only [Instr.sliceAt, Sem.run_bind, run_und ht, Result.andThen_ok, Instr.sureAddr, Sem.run_pure, hr, run_size hs]
        congr 1
        split <;> rfl
      · cases hk
    · cases h
  · cases h

theorem idxAddrK_sound {t : TypeId} {x ix : AVal} {x' ix' : Value} (hx : VRel ρ N x x') (hi : VRel ρ N ix ix') {k : AVal → Option α} (h : idxAddrK P t x ix k = some r) :
    ∃ z z', k z = some r ∧ VRel ρ N z z' ∧ (Instr.indexAt t x' ix').run P w = .ok z' w := by
  unfold idxAddrK at h
  split at h
  · rename_i len e n o kd i ht
    split at h
    · rename_i size hs
      split at h
      · rename_i hc
        obtain ⟨hn, rfl⟩ := hx.ptr_inv
        cases hi
        refine ⟨_, _, h, .ptr _ hn, ?_⟩
        simp only [Instr.indexAt, asIntOf, Sem.run_bind, Sem.run_pure, Result.andThen_ok, run_und ht, Instr.sureAddr]
        rw [if_pos hc]
        simp only [Sem.run_bind, run_size hs, Result.andThen_ok, Sem.run_pure, addr_add, Nat.add_assoc]
      · cases h
    · cases h
  · rename_i e n o len kd i ht
    split at h
    · rename_i size hs
      split at h
      · rename_i hc
        obtain ⟨a', cap, rfl, hcap, hcase⟩ := hx.slice_inv
        cases hi
        rcases hcase with ⟨h', _⟩ | ⟨n', o', he, hn, ⟨rfl, hroom⟩ | ⟨rfl, rfl, p, rfl⟩⟩
        · cases h'
        · simp at he; obtain ⟨rfl, rfl⟩ := he
          refine ⟨_, _, h, .ptr _ hn, ?_⟩
          simp only [Instr.indexAt, asIntOf, Sem.run_bind, Sem.run_pure, Result.andThen_ok, run_und ht]
          rw [if_pos hc]
          simp only [Sem.run_bind, run_size hs, Result.andThen_ok, Sem.run_pure, addr_add, Nat.add_assoc]
        · omega
      · cases h
    · cases h
  · cases h

theorem idxK_sound {t : TypeId} {x ix : AVal} {x' ix' : Value} (hx : VRel ρ N x x') (hi : VRel ρ N ix ix') {k : AVal → Option α} (h : idxK P t x ix k = some r) :
    ∃ z z', k z = some r ∧ VRel ρ N z z' ∧ (Instr.index t x' ix').run P w = .ok z' w := by
  unfold idxK at h
  split at h
  · rename_i len e cs kd i ht
    split at h
    · rename_i g size hg hs
      split at h
      · rename_i hc
        cases hx with
        | agg hl h1 hr =>
          rename_i a
          cases hi
          have hL := LRel.of_array hl hr
          have hrun : ∀ v, (part e a (i.toNat * size)).run P w = .ok v w → (Instr.index t (.agg a) (.int kd i)).run P w = .ok v w := fun v hv => by
            simp only [Instr.index, asIntOf, Sem.run_bind, Sem.run_pure, Result.andThen_ok, run_und ht]
            rw [if_pos hc]
            simp only [Sem.run_bind, run_size hs, Result.andThen_ok]
            exact hv
          have hp := run_part (P := P) (w := w) hg hs a.toList (i.toNat * size)
          simp only [Array.toArray_toList] at hp
          rcases partK_some h with ⟨rfl, hle, hk⟩ | ⟨rfl, v, hv, hk⟩
          · exact ⟨_, _, hk, VRel.agg' (fun x hx => h1 x (List.mem_of_mem_drop (List.mem_of_mem_take hx))) ((hL.drop _).take _), hrun _ (by rw [hp]; rfl)⟩
          · obtain ⟨v', hv', hvr⟩ := hL.get hv
            exact ⟨v, v', hk, hvr, hrun _ (by rw [hp]; simp only [Bool.false_eq_true, if_false, hv'])⟩
      · cases h
    · cases h
  · rename_i s kd i ht
    cases hx; cases hi
    split at h
    · rename_i h0
      split at h
      · rename_i b hb
        exact ⟨_, _, h, .int _ _, by simp [Instr.index, asIntOf, run_und ht, h0, hb]⟩
      · cases h
    · cases h
  · cases h

theorem lenK_sound {t : TypeId} {x : AVal} {x' : Value} (hx : VRel ρ N x x') {ty : TypeId} {ts : Array TypeId} (hts : ts[0]? = some t) {k : AVal → Option α} (h : lenK P t x k = some r) :
    ∃ z z', k z = some r ∧ VRel ρ N z z' ∧ (Builtin.len_ ts ty #[x']).run P w = .ok z' w := by
  unfold lenK at h
  split at h
  · rename_i s ht
    cases hx
    exact ⟨_, _, h, .int _ _, by simp [Builtin.len_, hts, run_und ht, goInt]⟩
  · rename_i n _ ht
    refine ⟨_, _, h, .int _ _, ?_⟩
    simp only [Builtin.len_, hts, List.getElem?_toArray, List.getElem?_cons_zero, Sem.run_bind, run_und ht, Result.andThen_ok]
    rfl
  · rename_i e a n ht
    obtain ⟨a', cap, rfl, hcap, _⟩ := hx.slice_inv
    exact ⟨_, _, h, .int _ _, by simp [Builtin.len_, hts, run_und ht, goInt]⟩
  · cases h

end
end Go.Abs
namespace Go.Abs

section
variable {P : Program} {ρ : Ren} {N : Nat} {w : World} {α : Type} {r : α} {B : Nat → Bool} {σ : St}

/-! ### maps -/

theorem keyEq_sound {a b : AVal} {a' b' : Value} (ha : VRel ρ N a a') (hb : VRel ρ N b b') {c : Bool} (h : keyEq a b = some c) {t : TypeId} {d : TypeDesc} (ht : P.underlying t = some d) (hk : keyT P t a = true) :
    Instr.sameNow d a' b' = some c := by
  unfold keyT at hk
  rw [ht] at hk
  unfold keyEq at h
  split at h
  · split at h
    · rename_i hk'
      subst hk'
      cases ha; cases hb
      simp at h
      split at hk <;> simp_all [Instr.sameNow]
    · cases h
  · cases ha; cases hb
    simp at h
    split at hk <;> simp_all [Instr.sameNow]
  · cases ha; cases hb
    simp at h
    split at hk <;> simp_all [Instr.sameNow]
  · cases h

theorem findE_sound {key : AVal} {key' : Value} (hk : VRel ρ N key key') {t : TypeId} {d : TypeDesc} (ht : P.underlying t = some d) (hkt : keyT P t key = true) :
    ∀ {es : List (AVal × AVal)} {es' : List MapEntry} {x : Option AVal} (i : Nat), findE key es = some x → All2 (fun (e : AVal × AVal) (e' : MapEntry) => VRel ρ N e.1 e'.key ∧ VRel ρ N e.2 e'.val) es es' →
      match x with
      | none => Instr.findNow d key' es' i = some none
      | some v => ∃ j v', Instr.findNow d key' es' i = some (some (j, v')) ∧ VRel ρ N v v' := by
  intro es
  induction es with
  | nil =>
    intro es' x i h he
    simp [findE] at h
    subst h
    obtain rfl := he.nil_left
    rfl
  | cons e es ih =>
    obtain ⟨a, b⟩ := e
    intro es' x i h he
    obtain ⟨e', es'', rfl, ⟨h1, h2⟩, hr⟩ := he.cons_left
    simp only [findE] at h
    split at h
    · rename_i hq
      simp at h; subst h
      have := keyEq_sound (P := P) hk h1 hq ht hkt
      exact ⟨i, e'.val, by simp [Instr.findNow, this], h2⟩
    · rename_i hq
      have hs := keyEq_sound (P := P) hk h1 hq ht hkt
      have := ih (i + 1) h hr
      cases x with
      | none => simpa [Instr.findNow, hs] using this
      | some v => simpa [Instr.findNow, hs] using this
    · cases h

theorem run_checkKey {b : Bool} {t : TypeId} {key : AVal} {key' : Value} (hk : VRel ρ N key key') (hkt : keyT P t key = true) : (Instr.checkKey b 10000 t key').run P w = .ok () w := by
  rw [show (10000 : Nat) = 9999 + 1 from rfl, Instr.checkKey]
  unfold keyT at hkt
  cases hu : P.underlying t with
  | none => rw [hu] at hkt; cases key <;> simp at hkt
  | some d =>
    rw [hu] at hkt
    cases key with
    | int kk n => cases hk; cases d <;> first | (simp at hkt; done) | (simp only [Sem.run_bind, run_und hu, Result.andThen_ok]; rfl)
    | str s => cases hk; cases d <;> first | (simp at hkt; done) | (simp only [Sem.run_bind, run_und hu, Result.andThen_ok]; rfl)
    | bool q => cases hk; cases d <;> first | (simp at hkt; done) | (simp only [Sem.run_bind, run_und hu, Result.andThen_ok]; rfl)
    | _ => cases d <;> simp at hkt

theorem run_getObj {b : Nat} {es : Array MapEntry} {c : Nat} (h : w.heap[b]? = some (.map es c)) : (getObj b).run P w = .ok (.map es c) w := by
  simp [getObj, Sem.run, h]

theorem lookupK_sound (hS : SRel B ρ σ w) {t : TypeId} {m key : AVal} {m' key' : Value} (hm : VRel ρ σ.next m m') (hk : VRel ρ σ.next key key') {ok : Bool} {k : AVal → Option α} (h : lookupK P σ t m key ok k = some r) :
    ∃ z z', k z = some r ∧ VRel ρ σ.next z z' ∧ (Instr.lookup t m' key' ok).run P w = .ok z' w := by
  unfold lookupK at h
  split at h
  · rename_i kt et n ht
    split at h
    · rename_i es hg hkt
      cases hm
      obtain ⟨_, _, es', clk, hb, hes⟩ := (hS.obj n _ hg).2
      obtain ⟨kd, hkd⟩ : ∃ kd, P.underlying kt = some kd := by
        unfold keyT at hkt
        cases hu : P.underlying kt with
        | none => rw [hu] at hkt; cases key <;> simp at hkt
        | some d => exact ⟨d, rfl⟩
      have hpre : ∀ (f : Option (Nat × Value) → Sem Value), (Instr.findNow kd key' es'.toList 0 = some none ∨ ∃ q, Instr.findNow kd key' es'.toList 0 = some (some q)) → True := fun _ _ => trivial
      split at h
      · rename_i v hf
        obtain ⟨j, v', hfn, hv⟩ := findE_sound (P := P) hk hkd hkt 0 hf hes
        refine ⟨_, if ok then .tuple #[v', .bool true] else v', h, ?_, ?_⟩
        · cases ok
          · exact hv
          · exact VRel.tuple' (a := [v', .bool true]) (All2.cons hv (All2.cons (.bool true) All2.nil))
        · simp only [Instr.lookup, Sem.run_bind, run_und ht, Result.andThen_ok, run_getObj hb, Sem.run_pure, run_checkKey (w := w) hk hkt, Instr.findKey, run_und hkd, hfn]
      · rename_i hf
        have hfn := findE_sound (P := P) hk hkd hkt 0 hf hes
        simp only at hfn
        split at h
        · rename_i z hz
          obtain ⟨z', hz1, hz2⟩ := zeroV_rel (P := P) (ρ := ρ) (N := σ.next) (w := w) hz
          refine ⟨_, if ok then .tuple #[z', .bool false] else z', h, ?_, ?_⟩
          · cases ok
            · exact hz1
            · exact VRel.tuple' (a := [z', .bool false]) (All2.cons hz1 (All2.cons (.bool false) All2.nil))
          · simp only [Instr.lookup, Sem.run_bind, run_und ht, Result.andThen_ok, run_getObj hb, Sem.run_pure, run_checkKey (w := w) hk hkt, Instr.findKey, run_und hkd, hfn, hz2]
        · cases h
      · cases h
    · cases h
  · cases h

theorem setE_sound {key v : AVal} {key' v' : Value} (hk : VRel ρ N key key') (hv : VRel ρ N v v') {t : TypeId} {d : TypeDesc} (ht : P.underlying t = some d) (hkt : keyT P t key = true) :
    ∀ {es es2 : List (AVal × AVal)} {es' : List MapEntry} (i : Nat), setE key v es = some es2 → All2 (fun (e : AVal × AVal) (e' : MapEntry) => VRel ρ N e.1 e'.key ∧ VRel ρ N e.2 e'.val) es es' →
      (Instr.findNow d key' es' i = some none ∧ es2 = es ++ [(key, v)]) ∨
      (∃ j u e, Instr.findNow d key' es' i = some (some (i + j, u)) ∧ es'[j]? = some e ∧ Instr.sameBits 10000 e.key key' = true ∧ j < es.length ∧ es2 = es.set j (key, v)) := by
  intro es
  induction es with
  | nil =>
    intro es2 es' i h he
    simp [setE] at h
    subst h
    obtain rfl := he.nil_left
    exact .inl ⟨rfl, rfl⟩
  | cons e es ih =>
    obtain ⟨a, b⟩ := e
    intro es2 es' i h he
    obtain ⟨e', es'', rfl, ⟨h1, h2⟩, hr⟩ := he.cons_left
    simp only [setE] at h
    split at h
    · rename_i hq
      simp at h; subst h
      have hs := keyEq_sound (P := P) hk h1 hq ht hkt
      refine .inr ⟨0, e'.val, e', by simp [Instr.findNow, hs], by simp, ?_, by simp, by simp⟩
      unfold keyEq at hq
      split at hq
      · split at hq
        · rename_i hk'; subst hk'
          cases hk; 
          rename_i kk aa bb
          simp at hq; subst hq
          generalize he : e'.key = q at h1
          cases h1
          simp [Instr.sameBits]
        · cases hq
      · cases hk
        generalize he : e'.key = q at h1
        cases h1
        simp only [Option.some.injEq] at hq
        rw [beq_toListBytes] at hq
        simp only [Instr.sameBits, beq_toListBytes]
        simp only [beq_iff_eq] at hq ⊢
        exact hq.symm
      · cases hk
        simp at hq; subst hq
        generalize he : e'.key = q at h1
        cases h1
        simp [Instr.sameBits]
      · cases hq
    · rename_i hq
      have hs := keyEq_sound (P := P) hk h1 hq ht hkt
      simp only [Option.map_eq_some_iff] at h
      obtain ⟨es3, h3, rfl⟩ := h
      rcases ih (i + 1) h3 hr with ⟨g1, rfl⟩ | ⟨j, u, e, g1, g2, g3, g4, rfl⟩
      · exact .inl ⟨by simp [Instr.findNow, hs, g1], by simp⟩
      · exact .inr ⟨j + 1, u, e, by simp [Instr.findNow, hs, g1]; omega, by simpa using g2, g3, by simp; omega, by simp⟩
    · cases h

theorem run_setObj {b : Nat} {es : Array MapEntry} {c : Nat} (o : Obj) (h : w.heap[b]? = some (.map es c)) : (setObj b o).run P w = .ok () { w with heap := w.heap.setIfInBounds b o } := by
  simp [setObj, Sem.run, h]

/-- a map's entries are written -/
theorem SRel.setMap (hS : SRel B ρ σ w) {n : Nat} {es es2 : List (AVal × AVal)} (hn : σ.get n = some (.map es)) (hlk : σ.lock n = false) {es' : Array MapEntry} {clk : Nat}
    (hr : All2 (fun (e : AVal × AVal) (e' : MapEntry) => VRel ρ σ.next e.1 e'.key ∧ VRel ρ σ.next e.2 e'.val) es2 es'.toList) :
    SRel B ρ (σ.set n (.map es2)) { w with heap := w.heap.setIfInBounds (ρ n).block (.map es' clk) } ∧
      Step ρ σ w ρ (σ.set n (.map es2)) { w with heap := w.heap.setIfInBounds (ρ n).block (.map es' clk) } := by
  have hlt := (hS.obj n _ hn).2.lt
  obtain ⟨_, h1, h2, es0, c0, hb, _⟩ := hS.obj n _ hn
  refine hS.put hn hlk ⟨h1, h2, es', clk, by simp [hlt], hr⟩ (fun m x hm hmx hd => ?_) (fun b hbn => by simp only; rw [Array.getElem?_setIfInBounds_ne (fun e => hbn e.symm)]) (by simp) rfl rfl rfl
  have hm' := (hS.obj m x hmx).2
  have hne : (ρ m).block ≠ (ρ n).block := by
    intro e
    cases x with
    | cells wd cs => obtain ⟨_, _, _, c, el, fz, hb', _⟩ := hm'; rw [e, hb] at hb'; cases hb'
    | map es3 =>
      obtain ⟨k1, k2, _⟩ := hm'
      unfold Place.disj at hd
      omega
  exact hm'.mono (Nat.le_refl _) (fun _ _ => rfl) (by simp only; rw [Array.getElem?_setIfInBounds_ne (fun e => hne e.symm)])

theorem mapSetK_sound (hS : SRel B ρ σ w) {t : TypeId} {m key v : AVal} {m' key' v' : Value} (hm : VRel ρ σ.next m m') (hk : VRel ρ σ.next key key') (hv : VRel ρ σ.next v v') {k : St → Option α}
    (h : mapSetK P σ t m key v k = some r) : ∃ σ' w', k σ' = some r ∧ SRel B ρ σ' w' ∧ Step ρ σ w ρ σ' w' ∧ (Instr.mapUpdate t m' key' v').run P w = .ok () w' := by
  unfold mapSetK at h
  split at h
  · rename_i kt et n ht
    split at h
    · rename_i es hlk hg hkt
      split at h
      · rename_i es2 he
        cases hm
        obtain ⟨_, _, es', clk, hb, hes⟩ := (hS.obj n _ hg).2
        obtain ⟨kd, hkd⟩ : ∃ kd, P.underlying kt = some kd := by
          unfold keyT at hkt
          cases hu : P.underlying kt with
          | none => rw [hu] at hkt; cases key <;> simp at hkt
          | some d => exact ⟨d, rfl⟩
        rcases setE_sound (P := P) hk hv hkd hkt 0 he hes with ⟨hf, rfl⟩ | ⟨j, u, e, hf, hj, hsb, hjl, rfl⟩
        · have hall : All2 (fun (e : AVal × AVal) (e' : MapEntry) => VRel ρ σ.next e.1 e'.key ∧ VRel ρ σ.next e.2 e'.val) (es ++ [(key, v)]) (es'.push { key := key', val := v', born := clk }).toList := by
            rw [Array.toList_push]
            exact hes.append (All2.cons ⟨hk, hv⟩ All2.nil)
          obtain ⟨h1, h2⟩ := hS.setMap (clk := clk + 1) hg hlk hall
          refine ⟨_, _, h, h1, h2, ?_⟩
          simp only [Instr.mapUpdate, Sem.run_bind, run_und ht, Result.andThen_ok, run_getObj hb, run_checkKey (w := w) hk hkt, Instr.findKey, run_und hkd, hf, Sem.run_pure]
          exact run_setObj _ hb
        · have hall : All2 (fun (e : AVal × AVal) (e' : MapEntry) => VRel ρ σ.next e.1 e'.key ∧ VRel ρ σ.next e.2 e'.val) (es.set j (key, v)) (es'.modify j fun e => { e with key := key', val := v' }).toList := by
            have hjl' : j < es'.size := by have := hes.1; simp at this; omega
            refine ⟨by simp; simpa using hes.1, fun i x y hx hy => ?_⟩
            rw [List.getElem?_set] at hx
            simp only [Array.getElem?_toList, Array.getElem?_modify] at hy
            by_cases e1 : j = i
            · subst e1
              rw [if_pos rfl, if_pos hjl] at hx
              rw [if_pos rfl] at hy
              simp only [Option.map_eq_some_iff] at hy
              obtain ⟨q, hq, rfl⟩ := hy
              simp at hx; subst hx
              exact ⟨hk, hv⟩
            · rw [if_neg e1] at hx hy
              exact hes.2 i x y hx (by simpa using hy)
          obtain ⟨h1, h2⟩ := hS.setMap (clk := clk) hg hlk hall
          refine ⟨_, _, h, h1, h2, ?_⟩
          have hj' : es'[j]? = some e := by simpa using hj
          simp only [Instr.mapUpdate, Sem.run_bind, run_und ht, Result.andThen_ok, run_getObj hb, run_checkKey (w := w) hk hkt, Instr.findKey, run_und hkd, hf, Sem.run_pure, Nat.zero_add, hj', Option.map_some, Option.getD_some,
            Instr.keyThatStays, hsb, if_true]
          exact run_setObj _ hb
      · cases h
    · cases h
  · cases h

theorem newMap_sound (hS : SRel B ρ σ w) :
    ∃ ρ', SRel B ρ' (σ.new (.map [])) { w with heap := w.heap.push (.map #[] 0) } ∧ Step ρ σ w ρ' (σ.new (.map [])) { w with heap := w.heap.push (.map #[] 0) } ∧
      VRel ρ' (σ.next + 1) (.map (some σ.next)) (.map (some w.heap.size)) := by
  obtain ⟨ρ', h1, h2, h3⟩ := hS.newObj ⟨w.heap.size, 0, 1, 0⟩ (.map []) (.map #[] 0) rfl ⟨rfl, rfl, #[], 0, by simp, All2.nil⟩
  refine ⟨ρ', h2, h3, ?_⟩
  have : VRel ρ' (σ.next + 1) (.map (some σ.next)) (.map (some (ρ' σ.next).block)) := .map (by omega)
  rw [h1] at this
  exact this

/-! ### type assertions, least and greatest -/

theorem assertK_sound {xt t : TypeId} {x : AVal} {x' : Value} (hx : VRel ρ N x x') {ok : Bool} {k : AVal → Option α} (h : assertK P x t ok k = some r) :
    ∃ z z', k z = some r ∧ VRel ρ N z z' ∧ (Instr.typeAssert x' xt t ok).run P w = .ok z' w := by
  unfold assertK at h
  split at h
  · cases h
  · cases h
  · rename_i d hni ht
    have hnotif : ∀ ms, d ≠ .interface ms := fun ms e => hni ms (by rw [e])
    split at h
    · rename_i u v
      cases hx with
      | iface _ hv =>
        rename_i v'
        split at h
        · rename_i hut
          subst hut
          refine ⟨_, if ok then .tuple #[v', .bool true] else v', h, ?_, ?_⟩
          · cases ok
            · exact hv
            · exact VRel.tuple' (a := [v', .bool true]) (All2.cons hv (All2.cons (.bool true) All2.nil))
          · simp only [Instr.typeAssert, Sem.run_bind, run_und ht, Result.andThen_ok]
            cases d <;> first | (exact absurd rfl (hnotif _)) | (simp only [if_true]; rfl)
        · rename_i hut
          split at h
          · rename_i z hz
            obtain ⟨z', hz1, hz2⟩ := zeroV_rel (P := P) (ρ := ρ) (N := N) (w := w) hz
            refine ⟨_, .tuple #[z', .bool false], h, VRel.tuple' (a := [z', .bool false]) (All2.cons hz1 (All2.cons (.bool false) All2.nil)), ?_⟩
            simp only [Instr.typeAssert, Sem.run_bind, run_und ht, Result.andThen_ok]
            cases d <;> first | (exact absurd rfl (hnotif _)) | (simp only [if_neg hut, if_true, Sem.run_bind, hz2, Result.andThen_ok]; rfl)
          · cases h
    · cases hx
      split at h
      · rename_i z hz
        obtain ⟨z', hz1, hz2⟩ := zeroV_rel (P := P) (ρ := ρ) (N := N) (w := w) hz
        refine ⟨_, .tuple #[z', .bool false], h, VRel.tuple' (a := [z', .bool false]) (All2.cons hz1 (All2.cons (.bool false) All2.nil)), ?_⟩
        simp only [Instr.typeAssert, Sem.run_bind, run_und ht, Result.andThen_ok]
        cases d <;> first | (exact absurd rfl (hnotif _)) | (simp only [if_true, Sem.run_bind, hz2, Result.andThen_ok]; rfl)
      · cases h
    · cases h

theorem mm_sound {isMax : Bool} {kd : IntKind} : ∀ {l : List AVal} {l' : List Value} {x z : Int}, mm isMax kd x l = some z → LRel ρ N l l' →
    (l'.foldlM (if isMax then Builtin.max2 else Builtin.min2) (.int kd x) : Sem Value).run P w = .ok (.int kd z) w := by
  intro l
  induction l with
  | nil =>
    intro l' x z h hl
    obtain rfl := hl.nil_left
    simp [mm] at h; subst h
    rfl
  | cons y l ih =>
    intro l' x z h hl
    obtain ⟨y', l'', rfl, hy, hl2⟩ := hl.cons_left
    cases y <;> simp only [mm] at h
    case int k2 n =>
      split at h
      · rename_i hk; subst hk
        cases hy
        have := ih h hl2
        cases isMax with
        | true => simp only [if_true, List.foldlM_cons, Sem.run_bind] at this ⊢; simp only [Builtin.max2, Sem.run_pure, Result.andThen_ok]; exact this
        | false => simp only [Bool.false_eq_true, if_false, List.foldlM_cons, Sem.run_bind] at this ⊢; simp only [Builtin.min2, Sem.run_pure, Result.andThen_ok]; exact this
      · cases h
    all_goals cases h

theorem minmaxK_sound {isMax : Bool} {l : List AVal} {l' : Array Value} (hl : LRel ρ N l l'.toList) {k : AVal → Option α} (h : minmaxK isMax l k = some r) (ts : Array TypeId) (ty : TypeId) :
    ∃ z z', k z = some r ∧ VRel ρ N z z' ∧ (if isMax then Builtin.max_ ts ty l' else Builtin.min_ ts ty l').run P w = .ok z' w := by
  unfold minmaxK at h
  split at h
  · rename_i kd x l0
    split at h
    · rename_i z hz
      obtain ⟨x', l'', he, hx, hl2⟩ := hl.cons_left
      cases hx
      refine ⟨_, _, h, .int _ _, ?_⟩
      have := mm_sound (P := P) (w := w) hz hl2
      cases isMax with
      | true => simp only [if_true] at this ⊢; simp only [Builtin.max_, he]; exact this
      | false => simp only [Bool.false_eq_true, if_false] at this ⊢; simp only [Builtin.min_, he]; exact this
    · cases h
  · cases h

end
end Go.Abs
namespace Go.Abs

section
variable {P : Program} {ρ : Ren} {N : Nat} {w : World} {α : Type} {r : α} {B : Nat → Bool} {σ : St}

theorem get_rep {α : Type} (z : List α) (hz : 0 < z.length) : ∀ (n i : Nat), i < n * z.length → (List.replicate n z).flatten[i]? = z[i % z.length]? := by
  intro n
  induction n with
  | zero => intro i h; omega
  | succ n ih =>
    intro i h
    rw [Nat.succ_mul] at h
    simp only [List.replicate_succ, List.flatten_cons, List.getElem?_append]
    split
    · rw [Nat.mod_eq_of_lt ‹_›]
    · rename_i hge
      rw [ih (i - z.length) (by omega), Nat.mod_eq_sub_mod (a := i) (b := z.length) (by omega)]

theorem len_rep {α : Type} (z : List α) (n : Nat) : (List.replicate n z).flatten.length = n * z.length := by
  induction n with
  | zero => simp
  | succ n ih => simp only [List.replicate_succ, List.flatten_cons, List.length_append, ih, Nat.succ_mul]; omega

theorem isCell_rep {z : List AVal} (h : ∀ x ∈ z, x.isCell = true) (n : Nat) : ∀ x ∈ (List.replicate n z).flatten, x.isCell = true := by
  intro x hx
  simp only [List.mem_flatten, List.mem_replicate] at hx
  obtain ⟨l, ⟨_, rfl⟩, hx⟩ := hx
  exact h x hx

/-- noughts, one behind the other, as the model makes them -/
theorem zeros_rel {z : List AVal} {zv : Array Value} (h : LRel ρ N z zv.toList) (hz : 0 < z.length) (n : Nat) :
    LRel ρ N (List.replicate n z).flatten ((Array.range (n * z.length)).map (fun i => zv[i % zv.size]!)).toList := by
  have hsz : zv.size = z.length := by have := h.1; simp at this; omega
  refine ⟨by simp [len_rep], fun i x y hx hy => ?_⟩
  have hi : i < n * z.length := by
    have := (List.getElem?_eq_some_iff.1 hx).1
    rwa [len_rep] at this
  rw [get_rep z hz n i hi] at hx
  simp only [Array.getElem?_toList, Array.getElem?_map, Array.getElem?_range, hi, if_true, Option.map_some, Option.some.injEq] at hy
  obtain ⟨v, hv, hr⟩ := h.get hx
  have : zv[i % zv.size]! = v := by
    rw [hsz, getElem!_def]
    have : zv[i % z.length]? = some v := by simpa using hv
    rw [this]
  rw [this] at hy
  subst hy
  exact hr

theorem zeroCells_eq (zv : Array Value) (n : Nat) : Builtin.zeroCells zv n = (Array.range (n * zv.size)).map (fun i => zv[i % zv.size]!) := rfl

/-- the cells that an append brings -/
theorem newsK_sound (hS : SRel B ρ σ w) {size : Nat} {x : AVal} {x' : Value} (hx : VRel ρ σ.next x x') {k : Nat → List AVal → Option α} (h : newsK σ size x k = some r) :
    ∃ m news vs, k m news = some r ∧ LRel ρ σ.next news vs ∧ vs.length = m * size ∧ (Builtin.lenOf x').run P w = .ok m w ∧
      (∀ w' : World, w'.heap = w.heap → (Builtin.firstCells size m x').run P w' = .ok vs.toArray w') := by
  unfold newsK at h
  split at h
  · rename_i len
    obtain ⟨a', cap, rfl, hc, hcase⟩ := hx.slice_inv
    rcases hcase with ⟨_, rfl, rfl, rfl⟩ | ⟨n, o, h', _⟩
    · exact ⟨0, [], [], h, All2.nil, by simp, by simp [Builtin.lenOf], fun w' _ => by simp [Builtin.firstCells]⟩
    · cases h'
  · rename_i n o len
    obtain ⟨wd, cs, hg, hk⟩ := cellsK_some h
    split at hk
    · rename_i hle
      obtain ⟨a', cap, rfl, hc, hcase⟩ := hx.slice_inv
      rcases hcase with ⟨h', _⟩ | ⟨n', o', he, hn, ⟨rfl, hroom⟩ | ⟨rfl, rfl, p, rfl⟩⟩
      · cases h'
      · simp at he; obtain ⟨rfl, rfl⟩ := he
        obtain ⟨vs, hl, hlen, hcell⟩ := (hS.obj n _ hg).2.holds.cells o (len * size) hle
        refine ⟨len, _, vs, hk, hl, hlen, by simp [Builtin.lenOf], fun w' hw' => ?_⟩
        simp only [Builtin.firstCells]
        rw [← hlen]
        exact run_loadCells_list (P := P) w' _ vs fun j v hv => by rw [← hcell j v hv]; simp only [World.cell?, hw']
      · simp at he; obtain ⟨rfl, rfl⟩ := he
        simp only [Nat.zero_mul, List.take_zero] at hk
        refine ⟨0, [], [], hk, All2.nil, by simp, by simp [Builtin.lenOf], fun w' _ => ?_⟩
        simp [Builtin.firstCells, loadCells, loadCellsFrom]
    · cases hk
  · cases h

theorem all_cell {l : List AVal} (h : l.all AVal.isCell = true) : ∀ x ∈ l, x.isCell = true := by simpa using h

/-- the capacity that is drawn -/
def capOf (w : World) (need old : Nat) (e : TypeId) : Nat := (Question.appendCap need old e).cut (w.tape w.drawn (.appendCap need old e))

theorem capOf_ge (w : World) (need old : Nat) (e : TypeId) : need ≤ capOf w need old e := by
  simp only [capOf, Question.cut]
  exact Nat.le_add_right _ _

section run
variable {t t' ty e : TypeId} {e' : TypeId} {i : TypeInfo} {size bytes m len cap : Nat} {a' : Option Addr} {x' : Value} {vs : Array Value} {zv : Value}

theorem run_append_in (ht : P.underlying t = some (.slice e)) (hd' : P.underlying t' = some (.slice e')) (hi : P.info? e = some i)
    (hlen : (Builtin.lenOf x').run P w = .ok m w) (hroom : len + m ≤ cap) (hf : (Builtin.firstCells i.size m x').run P w = .ok vs w) {w2 : World}
    (hst : (match a' with | some a => storeCells (a.add (len * i.size)) vs.toList | none => pure () : Sem Unit).run P w = .ok () w2) :
    (Builtin.append_ #[t, t'] ty #[.slice a' len cap, x']).run P w = .ok (.slice a' (len + m) cap) w2 := by
  cases a' with
  | none =>
    simp only [Sem.run_pure, Result.ok.injEq, true_and] at hst
    subst hst
    simp [Builtin.append_, run_und ht, run_und hd', sizeOf, typeInfo, hi, hlen, hroom, hf]
  | some a =>
    simp only at hst
    simp [Builtin.append_, run_und ht, run_und hd', sizeOf, typeInfo, hi, hlen, hroom, hf, hst]

theorem run_append_new (ht : P.underlying t = some (.slice e)) (hd' : P.underlying t' = some (.slice e')) (hi : P.info? e = some i) (hz : i.zero = some zv)
    (hlen : (Builtin.lenOf x').run P w = .ok m w) (hroom : cap < len + m) (hmax : len + m ≤ 9223372036854775807) (hby : (len + m) * i.bytes ≤ 140737488355328) {olds : Array Value} (hf : ∀ w' : World, w'.heap = w.heap → (Builtin.firstCells i.size m x').run P w' = .ok vs w')
    (ho : ∀ w' : World, w'.heap = w.heap → (Builtin.firstCells i.size len (.slice a' len cap)).run P w' = .ok olds w') :
    (Builtin.append_ #[t, t'] ty #[.slice a' len cap, x']).run P w = .ok (.slice (some ⟨w.heap.size, 0, none⟩) (len + m) (capOf w (len + m) cap e))
      (w.drew.alloc (.cells (olds ++ vs ++ Builtin.zeroCells zv.cells (capOf w (len + m) cap e - (len + m))) e)) := by
  have h1 : ¬ (len + m ≤ cap) := by omega
  have h2 : ¬ (((len + m : Nat) : Int) > IntKind.i64.max) := by
    have : (IntKind.i64.max : Int) = 9223372036854775807 := by decide
    rw [this]; omega
  have h3 : ¬ (Builtin.nextslicecap (len + m) cap * i.bytes > 2 ^ 48) := by
    have := nextslicecap_le hroom
    have : Builtin.nextslicecap (len + m) cap * i.bytes ≤ 2 * (len + m) * i.bytes := Nat.mul_le_mul_right _ this
    have e1 : 2 * (len + m) * i.bytes = 2 * ((len + m) * i.bytes) := Nat.mul_assoc _ _ _
    omega
  have hf' := hf w.drew rfl
  have ho' := ho w.drew rfl
  have h2' : ¬ (9223372036854775807 < (len : Int) + (m : Int)) := by omega
  have hfc : (Question.appendCap (len + m) cap e).forced = false := rfl
  simp only [Nat.not_lt, gt_iff_lt] at h3
  have h3' : ¬ (2 ^ 48 < Builtin.nextslicecap (len + m) cap * i.bytes) := by omega
  simp [Builtin.append_, run_und ht, run_und hd', sizeOf, typeInfo, hi, hlen, h1, h2', h3', hfc, ho', hf', zeroValue, hz, newRow, capOf]

end run

theorem SRel.drew (h : SRel B ρ σ w) : SRel B ρ σ w.drew := h.world rfl
theorem step_drew {ρ : Ren} {σ : St} {w : World} : Step ρ σ w ρ σ w.drew := (Step.refl ρ σ w).world rfl rfl rfl rfl

theorem appendK_sound (hS : SRel B ρ σ w) {t t' ty e' : TypeId} {s x : AVal} {s' x' : Value} (hs : VRel ρ σ.next s s') (hx : VRel ρ σ.next x x') (hd' : P.underlying t' = some (.slice e'))
    {k : AVal → St → Option α} (h : appendK P σ t s x k = some r) :
    ∃ z z' ρ' σ' w', k z σ' = some r ∧ SRel B ρ' σ' w' ∧ Step ρ σ w ρ' σ' w' ∧ VRel ρ' σ'.next z z' ∧ (Builtin.append_ #[t, t'] ty #[s', x']).run P w = .ok z' w' := by
  unfold appendK at h
  split at h
  · rename_i e a len ht
    split at h
    · rename_i size bytes z hsz hby hz
      obtain ⟨m, news, vs, hk, hl, hlen, hlenOf, hfirst⟩ := newsK_sound (P := P) hS hx h
      obtain ⟨a', cap, rfl, hc, hcase⟩ := hs.slice_inv
      obtain ⟨i, zv, hi, hzv, hzr, hzc⟩ := zeroT_rel (P := P) (ρ := ρ) (N := σ.next) hz
      have hisz : i.size = size := by simpa [sizeT, hi] using hsz
      have hiby : i.bytes = bytes := by simpa [bytesT, hi] using hby
      subst hisz; subst hiby
      split at hk
      · -- nothing is appended
        rename_i hm0
        subst hm0
        have hvs : vs = [] := List.eq_nil_of_length_eq_zero (by simpa using hlen)
        subst hvs
        refine ⟨_, _, ρ, σ, w, hk, hS, Step.refl _ _ _, hs, ?_⟩
        have := run_append_in (P := P) (t' := t') (ty := ty) (a' := a') (w2 := w) ht hd' hi hlenOf (by omega : len + 0 ≤ cap) (hfirst w rfl) (by cases a' <;> rfl)
        simpa using this
      · rename_i hm0
        split at hk
        · rename_i hcond
          obtain ⟨hby2, hmax, hpos, hzlen, hnews⟩ := hcond
          have hnc := all_cell hnews
          have hzsz : zv.cells.size = i.size := by have := hzr.1; simp at this; omega
          -- a new block
          have hnew : ∀ (olds : List Value) (oldA : List AVal), LRel ρ σ.next oldA olds → (∀ x ∈ oldA, x.isCell = true) → oldA.length = len * i.size → cap < len + m →
              (∀ w' : World, w'.heap = w.heap → (Builtin.firstCells i.size len (.slice a' len cap)).run P w' = .ok olds.toArray w') → ∀ σ1, SRel B ρ σ1 w → σ1.next = σ.next →
              ∃ z' ρ' w', SRel B ρ' (σ1.new (.cells i.size (oldA ++ news))) w' ∧ Step ρ σ1 w ρ' (σ1.new (.cells i.size (oldA ++ news))) w' ∧
                VRel ρ' (σ1.next + 1) (.slice (some (σ.next, 0)) (len + m)) z' ∧ (Builtin.append_ #[t, t'] ty #[.slice a' len cap, x']).run P w = .ok z' w' := by
            intro olds oldA ho1 ho2 ho3 hcap hold σ1 hS1 hnx
            have hrun := run_append_new (P := P) (ty := ty) ht hd' hi hzv hlenOf hcap hmax hby2 hfirst hold
            have hoL := ho1.1
            have hall : LRel ρ σ1.next (oldA ++ news) ((olds.toArray ++ vs.toArray ++ Builtin.zeroCells zv.cells (capOf w (len + m) cap e - (len + m))).toList.take (oldA ++ news).length) := by
              have hlen2 : (oldA ++ news).length = (olds ++ vs).length := by simp [hoL, hl.1]
              rw [hlen2]
              simp only [Array.toList_append, List.append_assoc]
              rw [← List.append_assoc, List.take_left' rfl, hnx]
              exact ho1.append hl
            have hsize : (oldA ++ news).length ≤ (olds.toArray ++ vs.toArray ++ Builtin.zeroCells zv.cells (capOf w (len + m) cap e - (len + m))).size := by
              have := hl.1
              simp; omega
            obtain ⟨ρ', g1, g2, g3⟩ := hS1.drew.newCells i.size (oldA ++ news) _ e hall (by
              intro x hx
              rcases List.mem_append.1 hx with hx | hx
              · exact ho2 x hx
              · exact hnc x hx) hsize
            refine ⟨_, ρ', _, g2, step_drew.trans g3, ?_, hrun⟩
            rw [← hnx]
            have hge := capOf_ge w (len + m) cap e
            have hb : (⟨w.heap.size, 0, none⟩ : Addr) = ⟨(ρ' σ1.next).block, (ρ' σ1.next).off + 0, none⟩ := by rw [g1]; rfl
            rw [hb]
            refine .slice 0 _ _ (by omega) hge fun _ => ?_
            rw [g1]
            simp only [Nat.zero_add]
            have hcs : (Builtin.zeroCells zv.cells (capOf w (len + m) cap e - (len + m))).size = (capOf w (len + m) cap e - (len + m)) * i.size := by
              simp [Builtin.zeroCells, hzsz]
            simp only [Array.size_append, List.size_toArray, hcs]
            rw [← hoL, ho3, hlen, ← Nat.add_mul, ← Nat.add_mul]
            apply Nat.le_of_eq
            congr 1; omega
          cases a with
          | none =>
            rcases hcase with ⟨_, rfl, rfl, rfl⟩ | ⟨n, o, h', _⟩
            · obtain ⟨z', ρ', w', g1, g2, g3, g4⟩ := hnew [] [] All2.nil (by simp) (by simp) (by omega) (fun w' _ => by simp [Builtin.firstCells]) σ hS rfl
              refine ⟨_, z', ρ', _, w', hk, by simpa using g1, by simpa using g2, ?_, g4⟩
              simpa [St.new] using g3
            · cases h'
          | some no =>
            obtain ⟨n, o⟩ := no
            simp only at hk
            split at hk
            · cases hk
            · rename_i hlk
              obtain ⟨wd, cs, hg, hk⟩ := cellsK_some hk
              split at hk
              · rename_i hwc
                obtain ⟨rfl, hle⟩ := hwc
                obtain ⟨hS2, hst2⟩ := hS.del hlk
                have hoc : ∀ x ∈ (cs.drop o).take (len * i.size), x.isCell = true := fun x hx => (hS.obj n _ hg).2.holds.1 x (List.mem_of_mem_drop (List.mem_of_mem_take hx))
                by_cases hroom : len + m ≤ cap
                · -- in place
                  rcases hcase with ⟨h', _⟩ | ⟨n', o', he, hn, ⟨rfl, hroomr⟩ | ⟨rfl, rfl, p, rfl⟩⟩
                  · cases h'
                  · simp at he; obtain ⟨rfl, rfl⟩ := he
                    have hrw : (ρ n).w = i.size := (hS.obj n _ hg).2.1
                    have hrr := hroomr (by rw [hrw]; omega)
                    rw [hrw] at hrr
                    obtain ⟨ρ', g1, g2, g3⟩ := hS.growIn hg hlk o (len * i.size) news vs (cap * i.size) hl hnc hle (by rw [hl.1, hlen, ← Nat.add_mul]; exact Nat.mul_le_mul_right _ hroom) (by omega)
                    refine ⟨_, .slice (some ⟨(ρ n).block, (ρ n).off + o, none⟩) (len + m) cap, ρ', _, _, hk, g2, g3, ?_, ?_⟩
                    · have hb : (⟨(ρ n).block, (ρ n).off + o, none⟩ : Addr) = ⟨(ρ' σ.next).block, (ρ' σ.next).off + 0, none⟩ := by rw [g1]; rfl
                      rw [hb]
                      refine .slice 0 _ _ (by simp [St.new, St.del]) hroom fun _ => ?_
                      rw [g1]; simp
                    · refine run_append_in (P := P) (t' := t') (ty := ty) ht hd' hi hlenOf hroom (hfirst w rfl) ?_
                      simp only [addr_add]
                      obtain ⟨_, _, _, hcell, c, el, fz, hb, hszc, hrel, hfz⟩ := hS.obj n _ hg
                      have := run_storeCells_cells (P := P) (ρ n).block ((ρ n).off + o + len * i.size) vs 0 w (fun j hj => by
                          rw [cell?_of hb]
                          have h1 : len * i.size + vs.length ≤ cap * i.size := by rw [hlen, ← Nat.add_mul]; exact Nat.mul_le_mul_right _ hroom
                          have : (ρ n).off + o + len * i.size + 0 + j < c.size := by omega
                          simp [this]; omega) (fun j hj => frozen?_of hb (by
                          have h1 : len * i.size + vs.length ≤ cap * i.size := by rw [hlen, ← Nat.add_mul]; exact Nat.mul_le_mul_right _ hroom
                          exact hfz _ (by omega) (by omega)))
                        (fun x hx => by
                          obtain ⟨j, hj⟩ := List.getElem?_of_mem hx
                          have hj' : j < news.length := by rw [hl.1]; exact (List.getElem?_eq_some_iff.1 hj).1
                          exact (hl.2 j _ x (List.getElem?_eq_getElem hj') hj).cell (hnc _ (List.getElem_mem hj')))
                      simpa using this
                  · omega
                · -- in a new block
                  have hcell := (hS.obj n _ hg).2.holds.cells o (len * i.size) hle
                  obtain ⟨olds, ho1, ho2, ho3⟩ := hcell
                  obtain ⟨z', ρ', w', g1, g2, g3, g4⟩ := hnew olds _ ho1 hoc (by simp; omega) (by omega) (fun w' hw' => by
                      rcases hcase with ⟨h', _⟩ | ⟨n', o', he, hn, ⟨rfl, hroomr⟩ | ⟨rfl, rfl, p, rfl⟩⟩
                      · cases h'
                      · simp at he; obtain ⟨rfl, rfl⟩ := he
                        simp only [Builtin.firstCells]
                        rw [← ho2]
                        exact run_loadCells_list (P := P) w' _ olds fun j v hv => by rw [← ho3 j v hv]; simp only [World.cell?, hw']
                      · simp at ho2
                        subst ho2
                        simp [Builtin.firstCells, loadCells, loadCellsFrom]) (σ.del n) hS2 rfl
                  exact ⟨_, z', ρ', _, w', hk, g1, hst2.trans g2, g3, g4⟩
              · cases hk
        · cases hk
    · cases h
  · cases h


theorem makeSliceK_sound (hS : SRel B ρ σ w) {t : TypeId} {l c : AVal} {l' c' : Value} (hl : VRel ρ σ.next l l') (hc : VRel ρ σ.next c c') {k : AVal → St → Option α} (h : makeSliceK P σ t l c k = some r) :
    ∃ z z' ρ' σ' w', k z σ' = some r ∧ SRel B ρ' σ' w' ∧ Step ρ σ w ρ' σ' w' ∧ VRel ρ' σ'.next z z' ∧ (Instr.makeSlice t l' c').run P w = .ok z' w' := by
  unfold makeSliceK at h
  split at h
  · rename_i e n m ht
    split at h
    · rename_i z size bytes hz hsz hby
      split at h
      · rename_i hcond
        obtain ⟨rfl, h0, hb, hmax, hzl, hpos⟩ := hcond
        cases hl; cases hc
        obtain ⟨i, zv, hi, hzv, hzr, hzc⟩ := zeroT_rel (P := P) (ρ := ρ) (N := σ.next) hz
        have hisz : i.size = size := by simpa [sizeT, hi] using hsz
        have hiby : i.bytes = bytes := by simpa [bytesT, hi] using hby
        subst hisz; subst hiby
        · have hzsz : zv.cells.size = i.size := by have := hzr.1; simp at this; omega
          have hwrap : IntKind.i64.wrap n = n := by
            have hb : (2 : Int) ^ IntKind.i64.bits = 18446744073709551616 := by decide
            have hb2 : (2 : Int) ^ (IntKind.i64.bits - 1) = 9223372036854775808 := by decide
            simp only [IntKind.wrap, hb, hb2]
            split
            · rename_i hh; simp at hh; omega
            · exact Int.emod_eq_of_lt h0 (by omega)
          have hZ := zeros_rel hzr (by omega) n.toNat
          obtain ⟨ρ', g1, g2, g3⟩ := hS.newCells i.size (List.replicate n.toNat z).flatten ((Array.range (n.toNat * z.length)).map (fun j => zv.cells[j % zv.cells.size]!)) e
            (by rw [List.take_of_length_le (by simp [len_rep])]; exact hZ) (isCell_rep hzc _) (by simp [len_rep])
          refine ⟨_, .slice (some ⟨w.heap.size, 0, none⟩) n.toNat n.toNat, ρ', _, _, h, g2, g3, ?_, ?_⟩
          · have hb : (⟨w.heap.size, 0, none⟩ : Addr) = ⟨(ρ' σ.next).block, (ρ' σ.next).off + 0, none⟩ := by simp [g1]
            rw [hb]
            refine .slice 0 _ _ (by simp [St.new]) (Nat.le_refl _) fun _ => ?_
            rw [g1]; simp [hzl]
          · have hbn : ((i.bytes : Int) * n ≤ 281474976710656) := by
              have e1 : ((n.toNat * i.bytes : Nat) : Int) = n * (i.bytes : Int) := by
                rw [Int.natCast_mul, Int.toNat_of_nonneg h0]
              have e2 : ((n.toNat * i.bytes : Nat) : Int) ≤ 140737488355328 := by omega
              rw [e1, Int.mul_comm] at e2
              omega
            have hneg : ¬ (n < 0) := by omega
            have hbn' : ¬ ((i.bytes : Int) * n > 281474976710656) := by omega
            have h48 : (2 : Int) ^ 48 = 281474976710656 := by decide
            simp only [Instr.makeSlice, Sem.run_bind, run_und ht, Result.andThen_ok, asInt, asIntOf, Sem.run_pure, run_info hi, hwrap, h48, hbn', hneg, decide_false, Bool.or_false, Int.lt_irrefl, gt_iff_lt,
              Bool.false_eq_true, if_false, run_askRoom, run_size hsz, newRow]
            rw [hzl]
            split
            · rename_i hz0
              have hem : ∀ f : Nat → Value, (Array.range 0).map f = #[] := fun f => by simp [Array.range]
              simp only [Sem.run_bind, Sem.run_pure, Result.andThen_ok, run_newObj, hz0, hem]
            · simp only [Sem.run_bind, Sem.run_pure, Result.andThen_ok, run_newObj, run_zero hi hzv]
      · cases h
    · cases h
  · cases h

theorem clearK_sound (hS : SRel B ρ σ w) {t : TypeId} {x : AVal} {x' : Value} (hx : VRel ρ σ.next x x') {ts : Array TypeId} {ty : TypeId} (hts : ts[0]? = some t) {k : St → Option α} (h : clearK P σ t x k = some r) :
    ∃ σ' w', k σ' = some r ∧ SRel B ρ σ' w' ∧ Step ρ σ w ρ σ' w' ∧ (Builtin.clear_ ts ty #[x']).run P w = .ok (.tuple #[]) w' := by
  unfold clearK at h
  split at h
  · rename_i ht
    obtain ⟨a', cap, rfl, hc, hcase⟩ := hx.slice_inv
    rcases hcase with ⟨_, rfl, rfl, rfl⟩ | ⟨n, o, h', _⟩
    · exact ⟨σ, w, h, hS, Step.refl _ _ _, by simp [Builtin.clear_, hts, run_und ht]⟩
    · cases h'
  · rename_i e n o len ht
    split at h
    · rename_i z size hz hsz
      obtain ⟨a', cap, rfl, hc, hcase⟩ := hx.slice_inv
      have h0run : len = 0 → ∀ p, (Builtin.clear_ ts ty #[.slice (some p) len cap]).run P w = .ok (.tuple #[]) w := fun e0 p => by
        subst e0; simp [Builtin.clear_, hts, run_und ht]
      rcases hcase with ⟨h', _⟩ | ⟨n', o', he, hn, hcase⟩
      · cases h'
      · simp at he; obtain ⟨rfl, rfl⟩ := he
        split at h
        · rename_i hl0
          obtain ⟨p, rfl⟩ : ∃ p, a' = some p := by rcases hcase with ⟨rfl, _⟩ | ⟨_, _, h'⟩; exact ⟨_, rfl⟩; exact h'
          exact ⟨σ, w, h, hS, Step.refl _ _ _, h0run hl0 p⟩
        · rename_i hl0
          split at h
          · rename_i hcond
            obtain ⟨hzl, hpos⟩ := hcond
            split at h
            · cases h
            · rename_i hlk
              obtain ⟨wd, cs, hg, hk⟩ := cellsK_some h
              split at hk
              · rename_i hle
                rcases hcase with ⟨rfl, _⟩ | ⟨h1, _⟩
                · obtain ⟨i, zv, hi, hzv, hzr, hzc⟩ := zeroT_rel (P := P) (ρ := ρ) (N := σ.next) hz
                  have hisz : i.size = size := by simpa [sizeT, hi] using hsz
                  subst hisz
                  · have hzsz : zv.cells.size = i.size := by have := hzr.1; simp at this; omega
                    have hZ := zeros_rel hzr (by omega) len
                    have hlen : (List.replicate len z).flatten.length = len * i.size := by rw [len_rep, hzl]
                    obtain ⟨g1, g2⟩ := hS.write hg hlk o _ _ hZ (isCell_rep hzc _) (by omega)
                    refine ⟨_, _, hk, g1, g2, ?_⟩
                    obtain ⟨_, _, _, hcell, c, el, fz, hb, hszc, hrel, hfz⟩ := hS.obj n _ hg
                    have hvl := hZ.1
                    have hst := run_storeCells_cells (P := P) (ρ n).block ((ρ n).off + o) ((Array.range (len * z.length)).map (fun i => zv.cells[i % zv.cells.size]!)).toList 0 w (fun j hj => by
                        rw [cell?_of hb]
                        have : (ρ n).off + o + j < c.size := by omega
                        simp [this]) (fun j hj => frozen?_of hb (hfz _ (by omega) (by omega)))
                      (fun x hx => by
                        obtain ⟨j, hj⟩ := List.getElem?_of_mem hx
                        have hj' : j < (List.replicate len z).flatten.length := by rw [hZ.1]; exact (List.getElem?_eq_some_iff.1 hj).1
                        exact (hZ.2 j _ x (List.getElem?_eq_getElem hj') hj).cell (isCell_rep hzc _ _ (List.getElem_mem hj')))
                    have hzc2 : Builtin.zeroCells zv.cells len = (Array.range (len * z.length)).map (fun i => zv.cells[i % zv.cells.size]!) := by
                      rw [zeroCells_eq, hzsz, hzl]
                    obtain ⟨len, rfl⟩ : ∃ q, len = q + 1 := ⟨len - 1, by omega⟩
                    simp only [Builtin.clear_, hts, List.getElem?_toArray, List.getElem?_cons_zero, Sem.run_bind, run_und ht, Result.andThen_ok, run_zero hi hzv, hzc2]
                    simp only [Nat.add_zero] at hst
                    rw [hst]
                    rfl
                · exact absurd h1 hl0
              · cases hk
          · cases h
    · cases h
  · cases h

end
end Go.Abs
namespace Go.Abs

section
variable {α : Type}

abbrev CallF (α : Type) := FuncId → List AVal → St → (AVal → St → Option α) → (AVal → St → Option α) → Option α

/-- a call of a function value -/
def callV (callF : CallF α) (f : AVal) (args : List AVal) (σ : St) (k kp : AVal → St → Option α) : Option α :=
  match f with
  | .func (.func f) first captured => callF f (first ++ args ++ captured) σ k kp
  | _ => none

/-- the function and the receiver behind an interface value: a method of the dynamic type, or of an interface embedded as its field -/
def methodOf (P : Program) : Nat → TypeId → AVal → String → Option (FuncId × AVal)
  | 0, _, _, _ => none
  | n + 1, t, v, name => match P.info? t with
    | none => none
    | some info => match info.methods.find? (·.name == name) with
      | none => none
      | some m => match m.path.toList, m.func with
        | [], some (f, true) => match P.underlying t with
          | some (.pointer _) => some (f, v)
          | _ => none
        | [s], none => match s.deref, fieldOff P s.struct s.index, v with
          | false, some (off, ft, _), .agg cs => match aggT P ft, cs[off]? with
            | some false, some (.iface t' v') => methodOf P n t' v' name
            | _, _ => none
          | _, _, _ => none
        | _, _ => none

/-- one operation -/
def opK (P : Program) (callF : CallF α) (o : Oper) (fr : Fr) (σ : St) (k : Fr → St → Option α) (kp : AVal → Fr → St → Option α) : Option α :=
  match o.op with
  | .move x | .assign x => match fr.ev x with
    | some s => k (fr.put o.dst s) σ
    | none => none
  | .pick c a b => valK (fr.ev c) fun c => match c with
    | .bool true => valK (fr.ev a) fun v => k (fr.put o.dst (.val v)) σ
    | .bool false => valK (fr.ev b) fun v => k (fr.put o.dst (.val v)) σ
    | _ => none
  | .alloc t => match o.dst, zeroT P t with
    | some d, some z => match fr.esc.testBit d with
      | true => allocK σ (.cells 0 z) fun v σ => k (fr.put o.dst (.val v)) σ
      | false => k (fr.newBox d z) σ
    | _, _ => none
  | .box _ x => valK (fr.ev x) fun v => match v.isData, o.dst with
    | true, some d => match fr.esc.testBit d with
      | true => allocK σ (.cells 0 v.cells) fun v σ => k (fr.put o.dst (.val v)) σ
      | false => k (fr.newBox d v.cells) σ
    | _, _ => none
  | .build t parts => match zeroT P t, placeT P t, fr.evParts parts.toList with
    | some z, some pl, some ps => fillK pl ps z fun cs => k (fr.put o.dst (.val (.agg cs))) σ
    | _, _, _ => none
  | .buildSlice t len parts => match P.underlying t, fr.evParts parts.toList with
    | some (.slice e), some ps => match zeroT P e, sizeT P e with
      | some z, some size => if z.length = size ∧ 0 < size ∧ len * size ≤ 16777216 then
          fillK (fun i => some (i * size, size)) ps (List.replicate len z).flatten fun cs =>
            k (fr.put o.dst (.val (.slice (some (σ.next, 0)) len))) (σ.new (.cells size cs))
        else none
      | _, _ => none
    | _, _ => none
  | .load t a => match aggT P t, sizeT P t, fr.ev a with
    | some g, some size, some (.ref s off) => match fr.boxAt s with
      | some cs => partK g cs off size fun v => k (fr.put o.dst (.val v)) σ
      | none => none
    | some g, some size, some (.val p) => ldK σ g size p fun v => k (fr.put o.dst (.val v)) σ
    | _, _, _ => none
  | .store t a x => match sizeT P t, fr.ev a with
    | some size, some (.ref s off) => valK (fr.ev x) fun v => match fr.boxAt s with
      | some cs => putK cs off size v fun cs' => k ({ fr with slots := fr.slots.set s (.box cs') }.put o.dst Slot.undef) σ
      | none => none
    | some size, some (.val p) => valK (fr.ev x) fun v => stK σ size p v fun σ => k (fr.put o.dst Slot.undef) σ
    | _, _ => none
  | .nilCheck x => match fr.ev x with
    | some (.ref s off) => k (fr.put o.dst (.ref s off)) σ
    | some (.val v) => ncK v fun _ => k (fr.put o.dst (.val v)) σ
    | _ => none
  | .binOp op t x y _ => valK (fr.ev x) fun v => valK (fr.ev y) fun w => binK P op t (isConstO x || isConstO y) v w fun r => k (fr.put o.dst (.val r)) σ
  | .unOp op _ x => valK (fr.ev x) fun v => unK op v fun r => k (fr.put o.dst (.val r)) σ
  | .convert s d x => valK (fr.ev x) fun v => convK P s d v fun r => k (fr.put o.dst (.val r)) σ
  | .makeInterface t x => match P.underlying t with
    | some (.interface _) | none => none
    | some _ => valK (fr.ev x) fun v => k (fr.put o.dst (.val (.iface t v))) σ
  | .makeFunc fn first captured => match fr.evs first.toList, fr.evs captured.toList with
    | some a, some b => k (fr.put o.dst (.val (.func fn a b))) σ
    | _, _ => none
  | .makeMap t none => match P.underlying t with
    | some (.map _ _) => allocK σ (.map []) fun v σ => match v with
      | .ptr (some (n, _)) => k (fr.put o.dst (.val (.map (some n)))) σ
      | _ => none
    | _ => none
  | .makeSlice t l c => valK (fr.ev l) fun l => valK (fr.ev c) fun c => makeSliceK P σ t l c fun v σ => k (fr.put o.dst (.val v)) σ
  | .slice t x lo hi none => valK (fr.ev x) fun x => match fr.evOpt lo, fr.evOpt hi with
    | some lo, some hi => sliceK P σ t x lo hi fun v => k (fr.put o.dst (.val v)) σ
    | _, _ => none
  | .fieldAddr t x i => match fieldOff P t i with
    | some (off, _, size) => if size = 0 then none else match fr.ev x with
      | some (.ref s o0) => k (fr.put o.dst (.ref s (o0 + off))) σ
      | some (.val p) => addK p off fun v => k (fr.put o.dst (.val v)) σ
      | _ => none
    | none => none
  | .field t x i => match fieldOff P t i with
    | some (off, ft, size) => match aggT P ft with
      | some g => valK (fr.ev x) fun v => match v with
        | .agg cs => partK g cs off size fun v => k (fr.put o.dst (.val v)) σ
        | _ => none
      | none => none
    | none => none
  | .indexAddr t x ix => valK (fr.ev ix) fun i => match fr.ev x with
    | some (.ref s off) => match P.underlying t, i with
      | some (.array len e), .int _ i => match sizeT P e with
        | some size => if 0 ≤ i ∧ i < len then k (fr.put o.dst (.ref s (off + i.toNat * size))) σ else none
        | none => none
      | _, _ => none
    | some (.val x) => idxAddrK P t x i fun v => k (fr.put o.dst (.val v)) σ
    | _ => none
  | .index t x ix => valK (fr.ev x) fun x => valK (fr.ev ix) fun i => idxK P t x i fun v => k (fr.put o.dst (.val v)) σ
  | .lookup t m key ok => valK (fr.ev m) fun m => valK (fr.ev key) fun key => lookupK P σ t m key ok fun v => k (fr.put o.dst (.val v)) σ
  | .mapUpdate t m key x | .insert t m key x => valK (fr.ev m) fun m => valK (fr.ev key) fun key => valK (fr.ev x) fun v => mapSetK P σ t m key v fun σ => k (fr.put o.dst Slot.undef) σ
  | .typeAssert x _ t ok => valK (fr.ev x) fun v => assertK P v t ok fun v => k (fr.put o.dst (.val v)) σ
  | .extract x i => valK (fr.ev x) fun v => extractK v i fun v => k (fr.put o.dst (.val v)) σ
  | .call c => match c.callee, fr.evs c.args.toList with
    | .value f, some args => valK (fr.ev f) fun f => callV callF f args σ (fun v σ => k (fr.put o.dst (.val v)) σ) (fun v σ => kp v fr σ)
    | .invoke r name, some args => valK (fr.ev r) fun r => match r with
      | .iface t v => match methodOf P 5 t v name with
        | some (f, recv) => callF f (recv :: args) σ (fun v σ => k (fr.put o.dst (.val v)) σ) (fun v σ => kp v fr σ)
        | none => none
      | _ => none
    | .builtin b, some args => match b, args with
      | .len, [x] => match c.argTypes[0]? with
        | some t => lenK P t x fun v => k (fr.put o.dst (.val v)) σ
        | none => none
      | .append, [s, x] => match c.argTypes[0]?, c.argTypes[1]? with
        | some t, some t' => match P.underlying t' with
          | some (.slice _) => appendK P σ t s x fun v σ => k (fr.put o.dst (.val v)) σ
          | _ => none
        | _, _ => none
      | .min, l => minmaxK false l fun v => k (fr.put o.dst (.val v)) σ
      | .max, l => minmaxK true l fun v => k (fr.put o.dst (.val v)) σ
      | .clear, [x] => match c.argTypes[0]? with
        | some t => clearK P σ t x fun σ => k (fr.put o.dst (.val .undef)) σ
        | none => none
      | .recover, [] => match fr.rc with
        | .can v => k ({ fr with rc := .done }.put o.dst (.val v)) σ
        | .cannot | .done => k (fr.put o.dst (.val .nilIface)) σ
        | .no => none
      | _, _ => none
    | _, none => none
  | .defer c => match c.callee, fr.evs c.args.toList with
    | .value f, some args => valK (fr.ev f) fun f => match f with
      | .func (.func f) first captured => k ({ fr with defers := (f, first ++ args ++ captured) :: fr.defers }.put o.dst Slot.undef) σ
      | _ => none
    | _, _ => none
  | .panic x => valK (fr.ev x) fun v => match v with
    | .iface _ _ => kp v fr σ
    | _ => none
  | _ => none

/-- is the operation to be done? a guard that is asked is known from then on -/
def guardK (ops : Array Oper) (o : Oper) (fr : Fr) (yes no : Fr → Option α) : Option α :=
  match o.guard with
  | none => yes fr
  | some (j, want) => match (ops[j]?).bind (·.dst) with
    | none => none
    | some t => match fr.slots[t]? with
      | some (.val (.bool true)) => match want with
        | true => yes { fr with slots := fr.slots.set t (.val (.bool true)) }
        | false => no { fr with slots := fr.slots.set t (.val (.bool true)) }
      | some (.val (.bool false)) => match want with
        | true => no { fr with slots := fr.slots.set t (.val (.bool false)) }
        | false => yes { fr with slots := fr.slots.set t (.val (.bool false)) }
      | some (.val (.tuple [])) => no fr
      | _ => none

def opsK (P : Program) (callF : CallF α) (ops : Array Oper) : List Nat → Fr → St → (Fr → St → Option α) → (AVal → Fr → St → Option α) → Option α
  | [], fr, σ, k, _ => k fr σ
  | i :: is, fr, σ, k, kp => match ops[i]? with
    | none => none
    | some o => guardK ops o fr
        (fun fr => opK P callF o fr σ (fun fr σ => opsK P callF ops is fr σ k kp) kp)
        (fun fr => opsK P callF ops is (fr.put o.dst Slot.undef) σ k kp)

/-! ### a region whose order is drawn -/

inductive Acc where
  | none
  | rdL (s : Nat)
  | rdG
  | wrL (s : Nat)
  | alG
  | call
  | wrG
  | rdN (v : AVal)
  | wrN (v : AVal)

def Acc.isW (a : Acc) (d : Nat) : Bool :=
  match a with
  | .wrL s => s == d
  | _ => false
theorem Acc.isW_iff {a : Acc} {d : Nat} : a.isW d = true ↔ a = .wrL d := by
  cases a <;> simp [Acc.isW]

/-- two addresses in different variables -/
def differ (v u : AVal) : Bool :=
  match v, u with
  | .ptr (some (n, _)), .ptr (some (m, _)) => n != m
  | _, _ => false

/-- what an operation does to memory, as it is about to be done; none: not in a region that draws its order -/
def accOf (fr : Fr) (o : Oper) : Option Acc :=
  match o.op with
  | .move _ | .assign _ | .pick _ _ _ | .build _ _ | .nilCheck _ | .binOp _ _ _ _ _ | .unOp _ _ _ | .convert _ _ _ | .makeInterface _ _ | .makeFunc _ _ _
  | .fieldAddr _ _ _ | .field _ _ _ | .indexAddr _ _ _ | .index _ _ _ | .typeAssert _ _ _ _ | .extract _ _ => some .none
  | .load _ a => match fr.ev a with
    | some (.ref s _) => some (.rdL s)
    | some (.val v) => some (.rdN v)
    | _ => some .rdG
  | .lookup _ _ _ _ | .slice _ _ _ _ _ => some .rdG
  | .store _ a _ => match fr.ev a with
    | some (.ref s _) => some (.wrL s)
    | some (.val v) => some (.wrN v)
    | _ => some .wrG
  | .alloc _ | .box _ _ => match o.dst with
    | some d => some (if fr.esc.testBit d then .alG else .wrL d)
    | none => none
  | .buildSlice _ _ _ | .makeMap _ _ | .makeSlice _ _ _ => some .alG
  | .insert _ _ _ _ | .mapUpdate _ _ _ _ => some .wrG
  | .call c => match c.callee with
    | .value _ | .invoke _ _ => some .call
    | .builtin .len | .builtin .min | .builtin .max => some .none
    | .builtin .append => some .wrG
    | _ => none
  | _ => none

def isG : Acc → Bool
  | .alG | .call | .wrG | .wrN _ => true
  | _ => false
def isR : Acc → Bool
  | .rdG | .rdN _ => true
  | _ => false

def compat (a b : Acc) : Bool :=
  !(isG a && isG b) && (match a, b with
  | .rdG, .wrG | .wrG, .rdG | .rdG, .wrN _ | .wrN _, .rdG | .rdN _, .wrG | .wrG, .rdN _ => false
  | .rdN v, .wrN u | .wrN u, .rdN v => differ v u
  | .rdL s, .wrL t | .wrL s, .rdL t | .wrL s, .wrL t => s != t
  | _, _ => true)

def isLoad (o : Oper) : Bool :=
  match o.op with
  | .load _ _ | .lookup _ _ _ _ | .slice _ _ _ _ _ => true
  | _ => false

/-- two operations that no order binds (the later one of the text is not bound to come behind the other) -/
def free (bef : Array Nat) (i j : Nat) : Bool := !((bef.getD (max i j) 0).testBit (min i j)) && i != j

/-- may a variable of slot d be made anew here? (no address into an elder one is about) -/
def noRef (d : Nat) : List Slot → Bool
  | [] => true
  | .ref t _ :: r => t != d && noRef d r
  | _ :: r => noRef d r

def freshOk (fr : Fr) (o : Oper) : Bool :=
  match o.op with
  | .alloc _ | .box _ _ => match o.dst with
    | some d => fr.esc.testBit d || noRef d fr.slots
    | none => false
  | _ => true

/-- what the place of the result held: no variable that another may look at, no address into one that is to be made anew -/
def oldOk (ops : Array Oper) (bef : Array Nat) (fr : Fr) (o : Oper) (i : Nat) (a : Acc) : Bool :=
  match o.dst with
  | none => true
  | some d => match fr.slots[d]? with
    | some (.ref t _) => (List.range ops.size).all fun j => !free bef i j || (ops.getD j default).dst != some t
    | some (.box _) => a.isW d
    | _ => true

def lockCall (yes : Bool) (callF : CallF α) : CallF α := fun f args σ k _ =>
  match yes with
  | true => callF f args { σ with lock := fun m => σ.lock m || decide (m < σ.next) } (fun v σ' => k v { σ' with lock := σ.lock }) (fun _ _ => none)
  | false => callF f args σ (fun v σ' => k v { σ' with lock := σ.lock }) (fun _ _ => none)

def drawK (P : Program) (callF : CallF α) (ops : Array Oper) (bef : Array Nat) : List Nat → List (Nat × Acc) → Fr → St → (Fr → St → Option α) → Option α
  | [], _, fr, σ, k => k fr σ
  | i :: is, log, fr, σ, k => match ops[i]? with
    | none => none
    | some o => guardK ops o fr
        (fun fr => match accOf fr o, freshOk fr o with
          | some a, true =>
            if oldOk ops bef fr o i a && log.all (fun (j, b) => !free bef i j || compat a b) && (List.range i).all (fun j => !free bef i j || o.apart ops (ops.getD j default)) then
              opK P (lockCall ((List.range ops.size).any fun j => free bef i j && isLoad (ops.getD j default)) callF) o fr σ
                (fun fr σ => drawK P callF ops bef is ((i, a) :: log) fr σ k) (fun _ _ _ => none)
            else none
          | _, _ => none)
        (fun fr => if oldOk ops bef fr o i .none && (List.range i).all (fun j => !free bef i j || o.apart ops (ops.getD j default)) then drawK P callF ops bef is ((i, .none) :: log) (fr.put o.dst Slot.undef) σ k else none)

/-- whose forerunners all are among the given ones: they are added, in the text's order -/
def passE (md : Region.Mode) (ops : Array Oper) (mask : Nat) : Nat :=
  (List.range ops.size).foldl (fun m i => if (ops.getD i default).after.toList.all (fun e => !Region.binds md e || m.testBit e.on) then m ||| 2 ^ i else m) mask

/-- no operation waits for itself -/
def fullE (md : Region.Mode) (ops : Array Oper) : Nat → Nat → Bool
  | 0, m => (List.range ops.size).all fun i => m.testBit i
  | n + 1, m => if (List.range ops.size).all fun i => m.testBit i then true else fullE md ops n (passE md ops m)

/-- every operation comes behind what it is bound to; in each mode all can be done -/
def edgesOk (ops : Array Oper) : Bool :=
  ((List.range ops.size).all fun i => (ops.getD i default).after.toList.all fun e => !Region.binds .any e || decide (e.on < i)) && fullE .any ops 5 0 &&
    (!Region.departs ops || (fullE .text ops 5 0 && fullE .gc ops 5 0))

/-! ### code -/

def lim : Nat := 1152921504606846976

def loopK (body : Fr → St → (Ex → Fr → St → Option α) → Option α) : Nat → Fr → St → (Ex → Fr → St → Option α) → Option α
  | 0, _, _, _ => none
  | n + 1, fr, σ, k => body fr σ fun e fr σ => match e with
    | .normal => loopK body n fr σ k
    | e => k e fr σ

def execK (P : Program) (callF : CallF α) : Code → Fr → St → (Ex → Fr → St → Option α) → Option α
  | .skip, fr, σ, k => k .normal fr σ
  | .label _, fr, σ, k => k .normal fr σ
  | .region _ ops draw, fr, σ, k => match draw with
    | false => opsK P callF ops (List.range ops.size) fr σ (fun fr σ => k .normal fr σ) (fun v fr σ => k (.panic v) fr σ)
    | true => match edgesOk ops with
      | true => drawK P callF ops (Region.before ops) (List.range ops.size) [] fr σ (fun fr σ => k .normal fr σ)
      | false => none
  | .seq a b, fr, σ, k => execK P callF a fr σ fun e fr σ => match e with
    | .normal => execK P callF b fr σ k
    | e => k e fr σ
  | .cond c a b, fr, σ, k => valK (fr.ev c) fun v => condK v (fun _ => execK P callF a fr σ k) (fun _ => execK P callF b fr σ k)
  | .block id c, fr, σ, k => execK P callF c fr σ fun e fr σ => match e with
    | .exit j => if j = id then k .normal fr σ else k (.exit j) fr σ
    | e => k e fr σ
  | .scope c, fr, σ, k => execK P callF c fr σ k
  | .loop c, fr, σ, k => loopK (execK P callF c) lim fr σ k
  | .exit id, fr, σ, k => k (.exit id) fr σ
  | .ret, fr, σ, k => k .ret fr σ
  | _, _, _, _ => none

/-- the results of a function -/
def resultsK (P : Program) (fr : Fr) (σ : St) : List ResultVar → (List AVal → Option α) → Option α
  | [], k => k []
  | .tmp t :: r, k => valK (fr.ev (.tmp t)) fun v => resultsK P fr σ r fun vs => k (v :: vs)
  | .cell a t :: r, k => match aggT P t, sizeT P t, fr.ev (.tmp a) with
    | some g, some size, some (.ref s off) => match fr.boxAt s with
      | some cs => partK g cs off size fun v => resultsK P fr σ r fun vs => k (v :: vs)
      | none => none
    | some g, some size, some (.val p) => ldK σ g size p fun v => resultsK P fr σ r fun vs => k (v :: vs)
    | _, _, _ => none

def oneOr (vs : List AVal) : AVal :=
  match vs with
  | [v] => v
  | vs => .tuple vs

def frame0 (cfg : Cfg) (f : FuncId) (fn : Func) (args : List AVal) (rc : Rec) : Fr :=
  { slots := args.map .val ++ List.replicate (fn.ntmps - args.length) Slot.undef, defers := [], esc := cfg.esc f, rc }

inductive Md where
  | returning
  | panicking (v : AVal)

def Md.rc : Md → Rec
  | .returning => .cannot
  | .panicking v => .can v

def Md.settle (_ : Md) : Rec → Md
  | .can v => .panicking v
  | _ => .returning

/-- a body that is run as a deferred call: recover stands in regions along its top alone -/
def execD (P : Program) (callF : CallF α) : Code → Fr → St → (Ex → Fr → St → Option α) → Option α
  | .seq a b, fr, σ, k => execD P callF a fr σ fun e fr σ => match e with
    | .normal => execD P callF b fr σ k
    | e => k e fr σ
  | .cond c a b, fr, σ, k => valK (fr.ev c) fun v => condK v (fun _ => execD P callF a fr σ k) (fun _ => execD P callF b fr σ k)
  | .region _ ops false, fr, σ, k => opsK P callF ops (List.range ops.size) fr σ (fun fr σ => k .normal fr σ) (fun v fr σ => k (.panic v) fr σ)
  | c, fr, σ, k => execK P callF c { fr with rc := .no } σ fun e fr' σ => k e { fr' with rc := fr.rc } σ

/-- the deferred calls of a function that is being left, then its results -/
def leaveK (P : Program) (cfg : Cfg) (callF : CallF α) (fn : Func) (fr : Fr) (k kp : AVal → St → Option α) : List (FuncId × List AVal) → Md → St → Option α
  | [], .returning, σ => resultsK P fr σ fn.results.toList fun vs => k (oneOr vs) σ
  | [], .panicking v, σ => kp v σ
  | (f, args) :: ds, m, σ => match P.funcs[f]? with
    | none => none
    | some g => match g.body with
      | none => none
      | some c => execD P callF c (frame0 cfg f g args m.rc) σ fun e fr' σ => match e with
        | .normal | .ret => match fr'.defers with
          | [] => resultsK P fr' σ g.results.toList fun _ => leaveK P cfg callF fn fr k kp ds (m.settle fr'.rc) σ
          | _ => none
        | _ => none

/-- functions without a body -/
def ext (n : Nat) (args : List AVal) (σ : St) (k : AVal → St → Option α) : Option α :=
  match n, args with
  | 0, [.int .u64 x, .int .u64 y, .int .u64 c] =>     -- math/bits.Add64
    if 0 ≤ c ∧ c ≤ 1 then k (.tuple [.int .u64 (((x.toNat + y.toNat + c.toNat) % 2 ^ 64 : Nat) : Int), .int .u64 (((x.toNat + y.toNat + c.toNat) / 2 ^ 64 : Nat) : Int)]) σ else none
  | 1, [p] => ldK σ false 1 p fun v => match v with      -- sync/atomic.LoadUint32
    | .int .u32 x => k (.int .u32 x) σ
    | _ => none
  | 2, [p] => ldK σ false 1 p fun v => match v with      -- sync/atomic.LoadUint64
    | .int .u64 x => k (.int .u64 x) σ
    | _ => none
  | 3, [p, .int kd x] => stK σ 1 p (.int kd x) fun σ => k (.tuple []) σ      -- sync/atomic.Store..
  | 4, [p, .int .u64 y] => ldK σ false 1 p fun v => match v with      -- sync/atomic.AddUint64
    | .int .u64 x => stK σ 1 p (.int .u64 (IntKind.u64.wrap (x + y))) fun σ => k (.int .u64 (IntKind.u64.wrap (x + y))) σ
    | _ => none
  | 5, [p, .int .u32 y] => ldK σ false 1 p fun v => match v with      -- sync/atomic.AndUint32
    | .int .u32 x => stK σ 1 p (.int .u32 (IntKind.u32.wrap (BitVec.ofInt 32 x &&& BitVec.ofInt 32 y).toNat)) fun σ => k (.int .u32 x) σ
    | _ => none
  | 6, [p, .int .u32 y] => ldK σ false 1 p fun v => match v with      -- sync/atomic.OrUint32
    | .int .u32 x => stK σ 1 p (.int .u32 (IntKind.u32.wrap (BitVec.ofInt 32 x ||| BitVec.ofInt 32 y).toNat)) fun σ => k (.int .u32 x) σ
    | _ => none
  | _, _ => none

/-- a call, its body being run -/
def bodyK (P : Program) (cfg : Cfg) (callF : CallF α) (f : FuncId) (fn : Func) (c : Code) (args : List AVal) (σ : St) (k kp : AVal → St → Option α) : Option α :=
  execK P callF c (frame0 cfg f fn args .no) σ fun e fr σ => match e with
    | .normal | .ret => leaveK P cfg callF fn fr k kp fr.defers .returning σ
    | .panic v => leaveK P cfg callF fn fr k kp fr.defers (.panicking v) σ
    | .exit _ => none

/-- a call -/
def callN (P : Program) (cfg : Cfg) : Nat → CallF α
  | 0 => fun _ _ _ _ _ => none
  | n + 1 => fun f args σ k kp => match P.funcs[f]? with
    | none => none
    | some fn => match fn.body with
      | none => match cfg.ext f with
        | some e => ext e args σ k
        | none => none
      | some c => match cfg.pure f with
        | true => bodyK P cfg (callN P cfg n) f fn c args { σ with lock := fun m => σ.lock m || decide (m < σ.next) }
            (fun v _ => match v.old σ.next with | true => k v σ | false => none) (fun v _ => match v.old σ.next with | true => kp v σ | false => none)
        | false => bodyK P cfg (callN P cfg n) f fn c args σ k kp

end
end Go.Abs
namespace Go.Abs

section
variable {P : Program} {ρ ρ' : Ren} {w w' : World} {α : Type} {r : α} {B : Nat → Bool} {σ σ' : St}

/-- more may be locked -/
def St.locked (σ : St) : St := { σ with lock := fun m => σ.lock m || decide (m < σ.next) }

theorem SRel.locked (h : SRel B ρ σ w) : SRel B ρ σ.locked w :=
  ⟨h.obj, h.dis, fun n hn => by simp [St.locked, h.lock n hn], h.glob⟩

theorem own_locked {b : Nat} (hS : SRel B ρ σ w) : ¬ Own ρ σ.locked b := by
  rintro ⟨n, o, hn, hl, _⟩
  have := (hS.obj n o hn).1
  simp [St.locked] at hl
  omega

/-- behind a call that was locked in, the lock is as before -/
theorem SRel.unlock {L : Nat → Bool} (h : SRel B ρ' σ' w') (hL : ∀ n, B n = true → L n = true) : SRel B ρ' { σ' with lock := L } w' := ⟨h.obj, h.dis, hL, h.glob⟩

theorem Step.unlock (h : Step ρ σ.locked w ρ' σ' w') : Step ρ σ w ρ' { σ' with lock := σ.lock } w' where
  next := h.next
  ren := h.ren
  lock := rfl
  keep n hn _ := h.keep n hn (by simp only [St.locked, Bool.or_eq_true, decide_eq_true_eq]; exact .inr hn)
  os := h.os
  tape := h.tape
  output := h.output
  size := h.size
  frame b hb ho := h.frame b hb (fun ⟨n, o, hn, hl, he⟩ => ho ⟨n, o, hn, by simp [St.locked] at hl; exact hl.1, he⟩)
  own b hb := by
    obtain ⟨n, o, hn, hl, he⟩ := hb
    by_cases hlt : n < σ.next
    · right
      have hk := h.keep n hlt (by simp only [St.locked, Bool.or_eq_true, decide_eq_true_eq]; exact .inr hlt)
      have hn' : σ'.get n = some o := hn
      rw [hk] at hn'
      exact ⟨n, o, hn', hl, by rw [← h.ren n hlt]; exact he⟩
    · rcases h.own b ⟨n, o, hn, by rw [h.lock]; simp only [St.locked, Bool.or_eq_false_iff, decide_eq_false_iff_not]; exact ⟨hl, hlt⟩, he⟩ with h1 | ⟨m, x, hm, hl2, he2⟩
      · exact .inl h1
      · right; exact ⟨m, x, hm, by simp [St.locked] at hl2; exact hl2.1, he2⟩
  ownAll := h.ownAll

/-- a call whose own memory is forgotten -/
theorem SRel.forget (hS : SRel B ρ σ w) (h : Step ρ σ.locked w ρ' σ' w') : SRel B ρ σ w' ∧ Step ρ σ w ρ σ w' := by
  have hb : ∀ b, b < w.heap.size → w'.heap[b]? = w.heap[b]? := fun b hb => h.frame b hb (own_locked hS)
  exact ⟨⟨fun n o hn => ⟨(hS.obj n o hn).1, (hS.obj n o hn).2.mono (Nat.le_refl _) (fun _ _ => rfl) (hb _ (hS.obj n o hn).2.lt)⟩, hS.dis, hS.lock, hS.glob⟩,
    ⟨Nat.le_refl _, fun _ _ => rfl, rfl, fun _ _ _ => rfl, h.os, h.tape, h.output, h.size, fun b hb' _ => hb b hb', fun b hb' => .inr hb', fun b hb' => .inr hb'⟩⟩

/-! ### calls -/

/-- what a call comes to: its value is reckoned at once, or its body is entered -/
def CallWp (P : Program) (f : FuncId) (args' : Array Value) (w : World) (R Rp : Value → World → Prop) : Prop :=
  (∃ v w', (callFunc f args').run P w = .ok (.value v) w' ∧ R v w') ∨
    ((callFunc f args').run P w = .ok (.enter f args') w ∧ Calls P f args' w (fun e w' => match e with
      | .returned v => R v w'
      | .panicked chain => ∃ v, chain = [{ v := v, recovered := false }] ∧ Rp v w'
      | .outgrown => False))

def CallPost (B : Nat → Bool) (ρ : Ren) (σ : St) (w : World) (r : α) (k : AVal → St → Option α) (v' : Value) (w' : World) : Prop :=
  ∃ ρ' σ' v, k v σ' = some r ∧ SRel B ρ' σ' w' ∧ Step ρ σ w ρ' σ' w' ∧ VRel ρ' σ'.next v v'

def CallOK (P : Program) (B : Nat → Bool) (r : α) (callF : CallF α) : Prop :=
  ∀ f args σ k kp, callF f args σ k kp = some r → ∀ ρ w args', SRel B ρ σ w → LRel ρ σ.next args (Array.toList args') →
    CallWp P f args' w (CallPost B ρ σ w r k) (CallPost B ρ σ w r kp)

theorem CallWp.mono {f : FuncId} {args' : Array Value} {w : World} {R R' Rp Rp' : Value → World → Prop} (h : CallWp P f args' w R Rp) (h1 : ∀ v w', R v w' → R' v w') (h2 : ∀ v w', Rp v w' → Rp' v w') :
    CallWp P f args' w R' Rp' := by
  rcases h with ⟨v, w', hr, hR⟩ | ⟨hr, hc⟩
  · exact .inl ⟨v, w', hr, h1 _ _ hR⟩
  · refine .inr ⟨hr, hc.mono fun e w' he => ?_⟩
    cases e with
    | returned v => exact h1 _ _ he
    | panicked chain => obtain ⟨v, hv, hR⟩ := he; exact ⟨v, hv, h2 _ _ hR⟩
    | outgrown => exact he

theorem CallOK.lock {callF : CallF α} (h : CallOK P B r callF) (yes : Bool) : CallOK P B r (lockCall yes callF) := by
  intro f args σ k kp hc ρ w args' hS hl
  cases yes with
  | false =>
    simp only [lockCall] at hc
    refine (h f args σ _ _ hc ρ w args' hS hl).mono (fun v w' hp => ?_) (fun v w' hp => ?_)
    · obtain ⟨ρ', σ', v', hk, h1, h2, h3⟩ := hp
      have : ({ σ' with lock := σ.lock } : St) = σ' := by rw [← h2.lock]
      simp only [this] at hk
      exact ⟨ρ', σ', v', hk, h1, h2, h3⟩
    · obtain ⟨ρ', σ', v', hk, _⟩ := hp; cases hk
  | true =>
    simp only [lockCall] at hc
    refine (h f args σ.locked _ _ hc ρ w args' hS.locked hl).mono (fun v w' hp => ?_) (fun v w' hp => ?_)
    · obtain ⟨ρ', σ', v', hk, h1, h2, h3⟩ := hp
      exact ⟨ρ', _, v', hk, h1.unlock hS.lock, h2.unlock, h3⟩
    · obtain ⟨ρ', σ', v', hk, _⟩ := hp; cases hk

/-! ### one operation -/

def After (B : Nat → Bool) (ρ0 : Ren) (σ0 : St) (w0 : World) (r : α) (esc : Nat) (rc : Rec) (k : Fr → St → Option α) (a : Act) (w : World) : Prop :=
  ∃ ρ β fr σ, k fr σ = some r ∧ Inv B ρ0 σ0 w0 ρ β fr σ a w ∧ fr.esc = esc ∧ fr.rc = rc

def AfterP (B : Nat → Bool) (ρ0 : Ren) (σ0 : St) (w0 : World) (r : α) (esc : Nat) (rc : Rec) (kp : AVal → Fr → St → Option α) (v' : Value) (a : Act) (w : World) : Prop :=
  ∃ ρ β fr σ v, kp v fr σ = some r ∧ Inv B ρ0 σ0 w0 ρ β fr σ a w ∧ VRel ρ σ.next v v' ∧ fr.esc = esc ∧ fr.rc = rc

def isRec (o : Oper) : Bool :=
  match o.op with
  | .call c => match c.callee with
    | .builtin .recover => true
    | _ => false
  | _ => false

variable {ρ0 : Ren} {σ0 : St} {w0 : World} {β : Nat → Nat} {fr : Fr} {a : Act}

theorem put_esc (fr : Fr) (d : Option Tmp) (s : Slot) : (fr.put d s).esc = fr.esc ∧ (fr.put d s).rc = fr.rc := by cases d <;> exact ⟨rfl, rfl⟩

theorem after_val (hI : Inv B ρ0 σ0 w0 ρ β fr σ a w) {k : Fr → St → Option α} {dst : Option Tmp} {v : AVal} {v' : Value} (hk : k (fr.put dst (.val v)) σ = some r) (hv : VRel ρ σ.next v v') :
    After B ρ0 σ0 w0 r fr.esc fr.rc k (a.put dst v') w := ⟨ρ, β, _, σ, hk, hI.put dst hv, (put_esc _ _ _).1, (put_esc _ _ _).2⟩

theorem after_ref (hI : Inv B ρ0 σ0 w0 ρ β fr σ a w) {k : Fr → St → Option α} {dst : Option Tmp} {s o : Nat} (hk : k (fr.put dst (.ref s o)) σ = some r) :
    After B ρ0 σ0 w0 r fr.esc fr.rc k (a.put dst (.pointer (some ⟨β s, o, none⟩))) w := ⟨ρ, β, _, σ, hk, hI.putRef dst s o, (put_esc _ _ _).1, (put_esc _ _ _).2⟩

/-- an operation's outcome by its run -/
theorem wp_value {o : Oper} {K : Act → World → Prop} {Q : Exit → Act → World → Prop} {v : Value} (h : (execOp a.eval o).run P w = .ok (.value v) w') (hK : K (a.put o.dst v) w') : o.wp P a w K Q := by
  unfold Oper.wp; rw [h]; exact hK

theorem wp_skip' {o : Oper} {K : Act → World → Prop} {Q : Exit → Act → World → Prop} (h : (execOp a.eval o).run P w = .ok .skip w') (hK : K (a.put o.dst undef) w') : o.wp P a w K Q := by
  unfold Oper.wp; rw [h]; exact hK

theorem run_value {s : Sem Value} {v : Value} (h : s.run P w = .ok v w') : (do pure (Next.value (← s)) : Sem Next).run P w = .ok (.value v) w' := by
  simp only [Sem.run_bind, h, Result.andThen_ok, Sem.run_pure]

theorem run_unit {s : Sem Unit} (h : s.run P w = .ok () w') : (do s; pure Next.skip : Sem Next).run P w = .ok .skip w' := by
  simp only [Sem.run_bind, h, Result.andThen_ok, Sem.run_pure]

/-- a call among the operations -/
theorem wp_call {o : Oper} {K : Act → World → Prop} {Q : Exit → Act → World → Prop} {f : FuncId} {args' : Array Value} {R Rp : Value → World → Prop} (hrun : (execOp a.eval o).run P w = (callFunc f args').run P w)
    (h : CallWp P f args' w R Rp) (hR : ∀ v w', R v w' → K (a.put o.dst v) w') (hP : ∀ v w', Rp v w' → Q (.panic [{ v := v, recovered := false }]) a w') : o.wp P a w K Q := by
  unfold Oper.wp
  rw [hrun]
  rcases h with ⟨v, w', hr, h1⟩ | ⟨hr, hc⟩
  · rw [hr]; exact hR _ _ h1
  · rw [hr]
    simp only [Oper.upon]
    refine hc.mono fun e w' he => ?_
    cases e with
    | returned v => exact hR _ _ he
    | panicked chain => obtain ⟨v, rfl, h2⟩ := he; exact hP _ _ h2
    | outgrown => exact he.elim

end
end Go.Abs
