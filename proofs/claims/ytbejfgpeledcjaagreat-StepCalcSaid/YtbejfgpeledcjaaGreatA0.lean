/- An abstract machine for the language model: a deterministic evaluator over a heap of numbered blocks, and the relation between its states and the model's worlds. -/
import Derived.Calls
import Derived.Defers
import Derived.Laws.World
import Derived.Laws.Sem
import Derived.Laws.Cells
import Derived.Laws.IdiomCopy
import Derived.RangeFuncRecord
set_option linter.unusedVariables false
set_option linter.unusedSimpArgs false
namespace Go.Proofs.YtbejfgpeledcjaaGreat.A
open Go

noncomputable section

/-- A tree of numbered things. -/
inductive Tr (α : Type) where
  | nil
  | node (v : Option α) (l r : Tr α)

namespace Tr
variable {α : Type}
def val : Tr α → Option α
  | .nil => none
  | .node v _ _ => v
def left : Tr α → Tr α
  | .nil => .nil
  | .node _ l _ => l
def right : Tr α → Tr α
  | .nil => .nil
  | .node _ _ r => r
/-- (By the recursors themselves: the kernel runs them several times faster.) -/
def get (t : Tr α) : Nat → Option α :=
  Tr.rec (motive := fun _ => Nat → Option α) (fun _ => none) (fun v _ _ ihl ihr i => Nat.rec (motive := fun _ => Option α) v (fun n _ => Bool.rec (motive := fun _ => Option α) (ihr (Nat.div n 2)) (ihl (Nat.div n 2)) (Nat.beq (Nat.mod n 2) 0)) i) t
def set (f : Nat) : Tr α → Nat → α → Tr α :=
  Nat.rec (motive := fun _ => Tr α → Nat → α → Tr α) (fun t _ _ => t) (fun _ ih t i x =>
    Tr.rec (motive := fun _ => Tr α)
      (Nat.rec (motive := fun _ => Tr α) (.node (some x) .nil .nil) (fun n _ => Bool.rec (motive := fun _ => Tr α) (.node none .nil (ih .nil (Nat.div n 2) x)) (.node none (ih .nil (Nat.div n 2) x) .nil) (Nat.beq (Nat.mod n 2) 0)) i)
      (fun v l r _ _ => Nat.rec (motive := fun _ => Tr α) (.node (some x) l r) (fun n _ => Bool.rec (motive := fun _ => Tr α) (.node v l (ih r (Nat.div n 2) x)) (.node v (ih l (Nat.div n 2) x) r) (Nat.beq (Nat.mod n 2) 0)) i) t) f
def put (t : Tr α) (i : Nat) (x : α) : Tr α := set (Nat.succ i) t i x
end Tr

/-- How the parts of a struct or an array lie: where, how many cells, what. -/
abbrev Parts := List (Nat × Nat × Operand)

/-- The kinds of plain values. -/
inductive Sk where
  | b | i | s

/-- The kinds of values that are held against nil. -/
inductive NilK where
  | ptr | sl | map | fn | iface

/-- An operation, its types resolved. -/
inductive AOp where
  | mv (x : Operand)
  | pick (c a b : Operand)
  | alloc (zero : List Value)
  | box (x : Operand)
  | build (zero : List Value) (parts : Parts)
  | buildSlice (init : List Value) (len size : Nat) (parts : Parts)
  | load1 (a : Operand)
  | loadN (n : Nat) (a : Operand)
  | store (n : Nat) (a v : Operand)
  | nilCheck (x : Operand)
  | bin (op : BinOp) (x y : Operand)
  | eqNil (k : NilK) (neg : Bool) (x y : Operand)
  | eqBool (neg : Bool) (x y : Operand)
  | eqAgg (ks : List Sk) (neg : Bool) (x y : Operand)
  | un (op : UnOp) (x : Operand)
  | convInt (k : IntKind) (x : Operand)
  | convStr (x : Operand)
  | bytesToStr (x : Operand)
  | strToBytes (x : Operand)
  | mkIface (t : TypeId) (x : Operand)
  | mkFunc (f : FuncId) (first captured : List Operand)
  | mkMap
  | mkSlice (zero : List Value) (bytes : Nat) (l c : Operand)
  | sliceSl (size : Nat) (x : Operand) (lo hi mx : Option Operand)
  | sliceStr (x : Operand) (lo hi : Option Operand)
  | sliceArr (n size : Nat) (x : Operand) (lo hi : Option Operand)
  | fieldAddr (off : Nat) (x : Operand)
  | part (off : Nat) (n : Option Nat) (x : Operand)
  | idxSl (size : Nat) (x i : Operand)
  | idxArr (len size : Nat) (x i : Operand)
  | indexAgg (len size : Nat) (agg : Bool) (x i : Operand)
  | lookup (sk : Sk) (zero : Value) (x i : Operand) (ok : Bool)
  | mapSet (sk : Sk) (m k v : Operand)
  | rangeStr (x : Operand)
  | nextStr (x : Operand)
  | typeIs (t : TypeId) (zero : Value) (x : Operand)
  | extract (x : Operand) (i : Nat)
  | callF (f : FuncId) (args : List Operand)
  | callV (f : Operand) (args : List Operand)
  | lenStr (x : Operand)
  | lenSl (x : Operand)
  | lenMap (x : Operand)
  | append (zero : List Value) (bytes : Nat) (str : Bool) (x y : Operand)
  | copy (size : Nat) (x y : Operand)
  | max2 (x y : Operand)
  | min2 (x y : Operand)
  | recover
  | deferV (f : Operand) (args : List Operand)
  | panic (x : Operand)

inductive Cls where
  | pure | alloc | read | write
  deriving DecidableEq

def AOp.cls : AOp → Cls
  | .alloc _ | .box _ | .buildSlice .. | .mkMap | .mkSlice .. => .alloc
  | .load1 _ | .loadN .. | .lookup .. | .lenMap _ | .bytesToStr _ | .sliceSl .. | .sliceArr .. => .read
  | .strToBytes _ | .store .. | .mapSet .. | .rangeStr _ | .nextStr _ | .callF .. | .callV .. | .append .. | .copy .. | .recover | .deferV .. | .panic _ => .write
  | _ => .pure

structure AOper where
  dst : Option Nat
  op : AOp
  guard : Option (Nat × Bool)
  /-- in a region whose order is open: how many writing operations are ahead of it for sure, and how many can be at most -/
  lo : Nat := 0
  hi : Nat := 0
  /-- whether it may end the region by a panic -/
  alone : Bool := true

inductive ACode where
  | skip
  | region (ops : List AOper)
  | drawn (ops : List AOper)
  | seq (a b : ACode)
  | cond (c : Operand) (a b : ACode)
  | block (id : Nat) (b : ACode)
  | loop (b : ACode)
  | rangeFunc (f : Operand) (params : List Tmp) (assign body : ACode)
  | exit (id : Nat)
  | ret

inductive ARes where
  | tmp (t : Nat)
  | cell (t : Nat) (n : Option Nat)

structure AFn where
  nparams : Nat
  ntmps : Nat
  results : List ARes
  body : ACode

inductive LSt where
  | ready | busy | done | over

inductive Jump where
  | exit (id : Nat) | ret

structure ALoop where
  st : LSt
  pend : Option Jump
  tmps : Tr Value
  params : List Tmp
  assign : ACode
  body : ACode

inductive AObj where
  /-- cells; of a slice's row: how many an element has (0: a variable's own); not to be written -/
  | cells (cs : List Value) (sz : Nat) (ro : Bool)
  | map (es : List (Value × Value))
  | loop (l : ALoop)
  | siter (s : ByteArray) (pos : Nat)
  | defers (taken : Bool)
  | dead

structure AHeap where
  next : Nat
  tr : Tr AObj

namespace AHeap
def get (h : AHeap) (b : Nat) : Option AObj := h.tr.get b
def put (h : AHeap) (b : Nat) (o : AObj) : AHeap := { h with tr := h.tr.put b o }
def push (h : AHeap) (o : AObj) : AHeap := { next := h.next + 1, tr := h.tr.put h.next o }
end AHeap

inductive ADef where
  | coll (r : Nat)
  | fn (f : FuncId) (args : List Value)

/-- The frame that deferred this one: how it is leaving. -/
inductive Rec where
  | no
  | returning
  | panicking (v : Value)
  | recovered (v : Value)

structure St where
  t : Tr Value
  ds : List ADef
  u : Rec
  /-- in a round of a range over a function -/
  rd : Bool
  h : AHeap

inductive Ex where
  | norm
  | exit (id : Nat)
  | ret
  | pan (v : Value)

inductive Cal where
  | fn (f : FuncId)
  | round (l : Nat)

inductive Res where
  | ret (v : Value)
  | pan (v : Value)

abbrev CallFn := Cal → List Value → Rec → AHeap → Option (Res × Rec × AHeap)

/-- What nothing is known of. -/
abbrev poison : Value := .chan none
/-- What a slot holds that nothing was put into. -/
abbrev blank : Value := .tuple #[]

def ev (t : Tr Value) : Operand → Value
  | .tmp i => (t.get i).getD blank
  | .const v => v
  | .global _ => poison
  | .func f => .func (.func f) #[] #[]

/-- A value that one cell holds. -/
def cellOk : Value → Bool
  | .bool _ | .int .. | .string _ | .pointer _ | .slice .. | .map _ | .func .. | .nilFunc | .iface .. | .nilIface => true
  | _ => false

/-- The cells of a value that can be stored. -/
def cellsOf : Value → Option (List Value)
  | .agg cs => some cs.toList
  | v => if cellOk v then some [v] else none

def setRange (cs : List Value) (off : Nat) (new : List Value) : List Value := cs.take off ++ new ++ cs.drop (off + new.length)

/-- The cells from a place on, with the parts laid in, which must come in order. -/
def fillL (pos : Nat) (cs : List Value) : List (Nat × Nat × Value) → Option (List Value)
  | [] => some cs
  | (off, n, v) :: rest =>
    match cellsOf v with
    | some new =>
      if Nat.ble pos off && Nat.beq new.length n && Nat.blt 0 n then
        match fillL (off + n) (cs.drop (off - pos + n)) rest with
        | some l => some (cs.take (off - pos) ++ new ++ l)
        | none => none
      else none
    | none => none

def evParts (t : Tr Value) (ps : Parts) : List (Nat × Nat × Value) := ps.map fun (o, n, x) => (o, n, ev t x)

def readN (h : AHeap) (b o n : Nat) : Option (List Value) :=
  match h.get b with
  | some (.cells cs _ _) => if o + n ≤ cs.length then some ((cs.drop o).take n) else none
  | _ => none

def read1 (h : AHeap) (b o : Nat) : Option Value :=
  match h.get b with
  | some (.cells cs _ _) => cs[o]?
  | _ => none

def binInt (op : BinOp) (k : IntKind) (a b : Int) : Option Value :=
  match op with
  | .add => some (.int k (k.wrap (a + b)))
  | .sub => some (.int k (k.wrap (a - b)))
  | .mul => some (.int k (k.wrap (a * b)))
  | .quo => if b = 0 then none else some (.int k (k.wrap (a.tdiv b)))
  | .rem => if b = 0 then none else some (.int k (a.tmod b))
  | .eql => some (.bool (a == b))
  | .neq => some (.bool (a != b))
  | .lss => some (.bool (a < b))
  | .leq => some (.bool (a ≤ b))
  | .gtr => some (.bool (a > b))
  | .geq => some (.bool (a ≥ b))
  | .and => some (.int k (k.wrap (BitVec.ofInt k.bits a &&& BitVec.ofInt k.bits b).toNat))
  | .or => some (.int k (k.wrap (BitVec.ofInt k.bits a ||| BitVec.ofInt k.bits b).toNat))
  | .xor => some (.int k (k.wrap (BitVec.ofInt k.bits a ^^^ BitVec.ofInt k.bits b).toNat))
  | _ => none

def binShift (op : BinOp) (k : IntKind) (a y : Int) : Option Value :=
  if y < 0 then none else
  match op with
  | .shl => some (.int k (k.wrap (a * 2 ^ (min y.toNat k.bits))))
  | .shr => some (.int k (a.fdiv (2 ^ (min y.toNat k.bits))))
  | _ => none

def binVal (op : BinOp) (x y : Value) : Option Value :=
  match op, x, y with
  | .shl, .int k a, .int _ b => binShift .shl k a b
  | .shr, .int k a, .int _ b => binShift .shr k a b
  | op, .int k a, .int k' b => if k = k' then binInt op k a b else none
  | .eql, .string a, .string b => some (.bool (a.data.toList == b.data.toList))
  | .neq, .string a, .string b => some (.bool (!(a.data.toList == b.data.toList)))
  | _, _, _ => none

def isNil : NilK → Value → Option Bool
  | .ptr, .pointer a => some a.isNone
  | .sl, .slice a _ _ => some a.isNone
  | .map, .map r => some r.isNone
  | .fn, .nilFunc => some true
  | .fn, .func .. => some false
  | .iface, .nilIface => some true
  | .iface, .iface .. => some false
  | _, _ => none

/-- Whether two plain values are one. -/
def eqK : Sk → Value → Value → Option Bool
  | .b, .bool a, .bool b => some (a == b)
  | .i, .int k a, .int k' b => if k = k' then some (a == b) else none
  | .s, .string a, .string b => some (a.data.toList == b.data.toList)
  | _, _, _ => none

def eqL : List Sk → List Value → List Value → Option Bool
  | [], [], [] => some true
  | k :: ks, x :: xs, y :: ys =>
    match eqK k x y, eqL ks xs ys with
    | some a, some b => some (a && b)
    | _, _ => none
  | _, _, _ => none

def unVal (op : UnOp) (x : Value) : Option Value :=
  match op, x with
  | .neg, .int k n => some (.int k (k.wrap (0 - n)))
  | .not, .bool b => some (.bool !b)
  | _, _ => none

def intOf? : Value → Option Int
  | .int _ n => some n
  | _ => none

/-- A bound of a slice expression. -/
def bound (t : Tr Value) (x : Option Operand) (least most dflt : Nat) : Option Nat :=
  match x with
  | none => some dflt
  | some x =>
    match intOf? (ev t x) with
    | some i => if (least : Int) ≤ i ∧ i ≤ most then some i.toNat else none
    | none => none

def addrAdd (a : Addr) (n : Nat) : Addr := ⟨a.block, a.off + n, none⟩

def findL (sk : Sk) (k : Value) : List (Value × Value) → Option (Option Value)
  | [] => some none
  | (x, v) :: es =>
    match eqK sk k x with
    | some true => some (some v)
    | some false => findL sk k es
    | none => none

def setL (sk : Sk) (k v : Value) : List (Value × Value) → Option (List (Value × Value))
  | [] => some [(k, v)]
  | (x, y) :: es =>
    match eqK sk k x with
    | some true => some ((k, v) :: es)
    | some false => (setL sk k v es).map ((x, y) :: ·)
    | none => none

def keyOk : Sk → Value → Bool
  | .b, .bool _ => true
  | .i, .int .. => true
  | .s, .string _ => true
  | _, _ => false

def bytesOf : List Value → Option (List UInt8)
  | [] => some []
  | .int .u8 n :: l => (bytesOf l).map (UInt8.ofNat n.toNat :: ·)
  | _ => none

/-- What an operation comes to. -/
inductive R where
  | val (v : Value) (h : AHeap)
  | call (c : Cal) (args : List Value)
  | dfr (d : ADef)
  | pan (v : Value)
  | rcv

def callee (f : Value) (args : List Value) : Option (Cal × List Value) :=
  match f with
  | .func (.func g) first captured => some (.fn g, first.toList ++ args ++ captured.toList)
  | .func (.yield l) first _ => some (.round l, first.toList ++ args)
  | _ => none

/-- The most that a slice is let grow to. -/
def most : Nat := 2 ^ 30

def appendTo (h : AHeap) (size : Nat) (s : Value) (new : List Value) (n : Nat) : Option R :=
  match s with
  | .slice base len cap =>
    if n = 0 then some (.val s h) else
    match base with
    | none => if len = 0 ∧ cap = 0 then some (.val (.slice (some ⟨h.next, 0, none⟩) n n) (h.push (.cells new size false))) else none
    | some a =>
      if cap = 0 then
        if len = 0 then some (.val (.slice (some ⟨h.next, 0, none⟩) n n) (h.push (.cells new size false))) else none
      else
        match h.get a.block with
        | some (.cells cs sz false) =>
          if a.off + len * size ≤ cs.length ∧ a.spot = none ∧ sz = size then
            let old := (cs.drop a.off).take (len * size)
            some (.val (.slice (some ⟨h.next, 0, none⟩) (len + n) (len + n)) ((h.put a.block .dead).push (.cells (old ++ new) size false)))
          else none
        | _ => none
  | _ => none

def k_mv (x : Operand) (t : Tr Value) (h : AHeap) : Option R := some (.val (ev t x) h)

def k_pick (c : Operand) (a : Operand) (b : Operand) (t : Tr Value) (h : AHeap) : Option R :=
    match ev t c with
    | .bool true => some (.val (ev t a) h)
    | .bool false => some (.val (ev t b) h)
    | _ => none

def k_alloc (zero : List Value) (_ : Tr Value) (h : AHeap) : Option R := some (.val (.pointer (some ⟨h.next, 0, none⟩)) (h.push (.cells zero 0 false)))

def k_box (x : Operand) (t : Tr Value) (h : AHeap) : Option R := match cellsOf (ev t x) with
    | some cs => some (.val (.pointer (some ⟨h.next, 0, none⟩)) (h.push (.cells cs 0 false)))
    | none => none

def k_build (zero : List Value) (parts : Parts) (t : Tr Value) (h : AHeap) : Option R := match fillL 0 zero (evParts t parts) with
    | some cs => if Nat.beq cs.length zero.length then some (.val (.agg ⟨cs⟩) h) else none
    | none => none

def k_buildSlice (init : List Value) (len size : Nat) (parts : Parts) (t : Tr Value) (h : AHeap) : Option R := match fillL 0 init (evParts t parts) with
    | some cs => if Nat.beq cs.length init.length then some (.val (.slice (some ⟨h.next, 0, none⟩) len len) (h.push (.cells cs size false))) else none
    | none => none

def k_load1 (a : Operand) (t : Tr Value) (h : AHeap) : Option R :=
    match ev t a with
    | .pointer (some ⟨b, o, none⟩) => (read1 h b o).map fun v => .val v h
    | _ => none

def k_loadN (n : Nat) (a : Operand) (t : Tr Value) (h : AHeap) : Option R :=
    match ev t a with
    | .pointer (some ⟨b, o, none⟩) => (readN h b o n).map fun cs => .val (.agg ⟨cs⟩) h
    | _ => none

def k_store (n : Nat) (a : Operand) (v : Operand) (t : Tr Value) (h : AHeap) : Option R :=
    match ev t a, cellsOf (ev t v) with
    | .pointer (some ⟨b, o, none⟩), some new =>
      match h.get b with
      | some (.cells cs sz false) => if new.length = n ∧ o + n ≤ cs.length then some (.val blank (h.put b (.cells (setRange cs o new) sz false))) else none
      | _ => none
    | _, _ => none

def k_nilCheck (x : Operand) (t : Tr Value) (h : AHeap) : Option R :=
    match ev t x with
    | .pointer (some a) => some (.val (.pointer (some a)) h)
    | .func (.func f) a b => some (.val (.func (.func f) a b) h)
    | _ => none

def k_bin (op : BinOp) (x : Operand) (y : Operand) (t : Tr Value) (h : AHeap) : Option R := (binVal op (ev t x) (ev t y)).map fun v => .val v h

def k_eqNil (k : NilK) (neg : Bool) (x : Operand) (y : Operand) (t : Tr Value) (h : AHeap) : Option R :=
    match isNil k (ev t x), isNil k (ev t y) with
    | some a, some b => if a || b then some (.val (.bool (neg != (a && b))) h) else none
    | _, _ => none

def k_eqBool (neg : Bool) (x : Operand) (y : Operand) (t : Tr Value) (h : AHeap) : Option R :=
    match ev t x, ev t y with
    | .bool a, .bool b => some (.val (.bool (neg != (a == b))) h)
    | _, _ => none

def k_eqAgg (ks : List Sk) (neg : Bool) (x : Operand) (y : Operand) (t : Tr Value) (h : AHeap) : Option R :=
    match ev t x, ev t y with
    | .agg a, .agg b => (eqL ks a.toList b.toList).map fun r => .val (.bool (neg != r)) h
    | _, _ => none

def k_un (op : UnOp) (x : Operand) (t : Tr Value) (h : AHeap) : Option R := (unVal op (ev t x)).map fun v => .val v h

def k_convInt (k : IntKind) (x : Operand) (t : Tr Value) (h : AHeap) : Option R := match ev t x with
    | .int _ n => some (.val (.int k (k.wrap n)) h)
    | _ => none

def k_convStr (x : Operand) (t : Tr Value) (h : AHeap) : Option R := match ev t x with
    | .string s => some (.val (.string s) h)
    | _ => none

def k_bytesToStr (x : Operand) (t : Tr Value) (h : AHeap) : Option R :=
    match ev t x with
    | .slice none _ _ => some (.val (.string ⟨#[]⟩) h)
    | .slice (some ⟨b, o, none⟩) len _ =>
      match readN h b o len with
      | some cs => (bytesOf cs).map fun l => .val (.string ⟨⟨l⟩⟩) h
      | none => if len = 0 then some (.val (.string ⟨#[]⟩) h) else none
    | _ => none

def k_strToBytes (x : Operand) (t : Tr Value) (h : AHeap) : Option R :=
    match ev t x with
    | .string s => some (.val (.slice (some ⟨h.next, 0, none⟩) s.size (s.size + 1)) (h.push (.cells (s.data.toList.map fun b => .int .u8 b.toNat) 1 false)))
    | _ => none

def k_mkIface (ty : TypeId) (x : Operand) (t : Tr Value) (h : AHeap) : Option R := if cellOk (ev t x) then some (.val (.iface ty (ev t x)) h) else match ev t x with
    | .agg a => some (.val (.iface ty (.agg a)) h)
    | _ => none

def k_mkFunc (f : FuncId) (first : List Operand) (captured : List Operand) (t : Tr Value) (h : AHeap) : Option R := some (.val (.func (.func f) ⟨first.map (ev t)⟩ ⟨captured.map (ev t)⟩) h)

def k_mkMap (_ : Tr Value) (h : AHeap) : Option R := some (.val (.map (some h.next)) (h.push (.map [])))

def k_mkSlice (zero : List Value) (bytes : Nat) (l : Operand) (c : Operand) (t : Tr Value) (h : AHeap) : Option R :=
    match ev t l, ev t c with
    | .int _ l, .int _ c =>
      if 0 ≤ l ∧ l ≤ c ∧ c ≤ (most : Nat) ∧ bytes ≤ 65536 then
        some (.val (.slice (some ⟨h.next, 0, none⟩) l.toNat c.toNat) (h.push (.cells ((List.replicate c.toNat zero).flatten) zero.length false)))
      else none
    | _, _ => none

/-- The stride of the row that a slice lies in. -/
def stride (h : AHeap) (b : Nat) : Option Nat :=
  match h.get b with
  | some (.cells _ sz _) => some sz
  | _ => none

def k_sliceSl (size : Nat) (x : Operand) (lo : Option Operand) (hi : Option Operand) (mx : Option Operand) (t : Tr Value) (h : AHeap) : Option R :=
  match ev t x with
  | .slice a len cap =>
    match bound t hi 0 len len with
    | some h' =>
      match bound t lo 0 h' 0 with
      | some l =>
        match a with
        | none =>
          match mx with
          | some m =>
            match bound t (some m) h' len len with
            | some _ => some (.val (.slice none 0 0) h)
            | none => none
          | none => some (.val (.slice none 0 0) h)
        | some a =>
          if a.spot = none ∧ (cap = 0 ∨ stride h a.block = some size) then
            match mx with
            | some m =>
              match bound t (some m) h' len len with
              | some m' => if m' = 0 then some (.val (.slice (some a) 0 0) h) else none
              | none => none
            | none => if cap = 0 then some (.val (.slice (some a) 0 0) h) else some (.val (.slice (some (addrAdd a (l * size))) (h' - l) (max (h' - l) 1)) h)
          else none
      | none => none
    | none => none
  | _ => none

def k_sliceStr (x : Operand) (lo : Option Operand) (hi : Option Operand) (t : Tr Value) (h : AHeap) : Option R :=
  match ev t x with
  | .string s =>
    match bound t hi 0 s.size s.size with
    | some h' => match bound t lo 0 h' 0 with
      | some l => some (.val (.string (s.extract l h')) h)
      | none => none
    | none => none
  | _ => none

def k_sliceArr (n size : Nat) (x : Operand) (lo : Option Operand) (hi : Option Operand) (t : Tr Value) (h : AHeap) : Option R :=
  match ev t x with
  | .pointer (some a) =>
    match bound t hi 0 n n with
    | some h' => match bound t lo 0 h' 0 with
      | some l => if l < n ∧ a.spot = none ∧ stride h a.block = some 0 then some (.val (.slice (some (addrAdd a (l * size))) (h' - l) (max (h' - l) 1)) h) else none
      | none => none
    | none => none
  | _ => none

def k_fieldAddr (off : Nat) (x : Operand) (t : Tr Value) (h : AHeap) : Option R :=
    match ev t x with
    | .pointer (some ⟨b, o, none⟩) => some (.val (.pointer (some ⟨b, o + off, none⟩)) h)
    | _ => none

def k_part (off : Nat) (n : Option Nat) (x : Operand) (t : Tr Value) (h : AHeap) : Option R :=
    match ev t x with
    | .agg cs => match n with
      | some n => some (.val (.agg ⟨(cs.toList.drop off).take n⟩) h)
      | none => (cs.toList[off]?).map fun v => .val v h
    | _ => none

def k_idxSl (size : Nat) (x : Operand) (i : Operand) (t : Tr Value) (h : AHeap) : Option R :=
    match ev t x, ev t i with
    | .slice (some a) len _, .int _ i => if 0 ≤ i ∧ i < len ∧ a.spot = none then some (.val (.pointer (some (addrAdd a (i.toNat * size)))) h) else none
    | _, _ => none

def k_idxArr (len : Nat) (size : Nat) (x : Operand) (i : Operand) (t : Tr Value) (h : AHeap) : Option R :=
    match ev t x, ev t i with
    | .pointer (some a), .int _ i => if 0 ≤ i ∧ i < len ∧ a.spot = none then some (.val (.pointer (some (addrAdd a (i.toNat * size)))) h) else none
    | _, _ => none

def k_indexAgg (len : Nat) (size : Nat) (agg : Bool) (x : Operand) (i : Operand) (t : Tr Value) (h : AHeap) : Option R :=
    match ev t x, ev t i with
    | .agg cs, .int _ i => if 0 ≤ i ∧ i < len then
        if agg then some (.val (.agg ⟨(cs.toList.drop (i.toNat * size)).take size⟩) h) else (cs.toList[i.toNat * size]?).map fun v => .val v h
      else none
    | .string s, .int _ i => if 0 ≤ i ∧ len = 0 ∧ i.toNat < s.size then (s.data.toList[i.toNat]?).map fun b => .val (.int .u8 b.toNat) h else none
    | _, _ => none

def k_lookup (sk : Sk) (zero : Value) (x : Operand) (i : Operand) (ok : Bool) (t : Tr Value) (h : AHeap) : Option R :=
    if keyOk sk (ev t i) then
      match ev t x with
      | .map none => some (.val (if ok then .tuple #[zero, .bool false] else zero) h)
      | .map (some r) =>
        match h.get r with
        | some (.map es) =>
          match findL sk (ev t i) es with
          | some (some v) => some (.val (if ok then .tuple #[v, .bool true] else v) h)
          | some none => some (.val (if ok then .tuple #[zero, .bool false] else zero) h)
          | none => none
        | _ => none
      | _ => none
    else none

def k_mapSet (sk : Sk) (m : Operand) (k : Operand) (v : Operand) (t : Tr Value) (h : AHeap) : Option R :=
    match ev t m with
    | .map (some r) =>
      match h.get r with
      | some (.map es) =>
        if keyOk sk (ev t k) then
          match setL sk (ev t k) (ev t v) es with
          | some es' => some (.val blank (h.put r (.map es')))
          | none => none
        else none
      | _ => none
    | _ => none

def k_rangeStr (x : Operand) (t : Tr Value) (h : AHeap) : Option R := match ev t x with
    | .string s => some (.val (.pointer (some ⟨h.next, 0, none⟩)) (h.push (.siter s 0)))
    | _ => none

def k_nextStr (x : Operand) (t : Tr Value) (h : AHeap) : Option R :=
    match ev t x with
    | .pointer (some ⟨r, 0, none⟩) =>
      match h.get r with
      | some (.siter s pos) =>
        if pos < s.size then
          some (.val (.tuple #[.bool true, .int .i64 pos, .int .i32 (Utf8.decode s pos).1]) (h.put r (.siter s (pos + (Utf8.decode s pos).2))))
        else some (.val (.tuple #[.bool false]) h)
      | _ => none
    | _ => none

def k_typeIs (ty : TypeId) (zero : Value) (x : Operand) (t : Tr Value) (h : AHeap) : Option R :=
    match ev t x with
    | .iface ty' v => if ty' = ty then some (.val (.tuple #[v, .bool true]) h) else some (.val (.tuple #[zero, .bool false]) h)
    | .nilIface => some (.val (.tuple #[zero, .bool false]) h)
    | _ => none

def k_extract (x : Operand) (i : Nat) (t : Tr Value) (h : AHeap) : Option R := match ev t x with
    | .tuple vs => (vs.toList[i]?).map fun v => .val v h
    | _ => none

def k_callF (f : FuncId) (args : List Operand) (t : Tr Value) (_ : AHeap) : Option R := some (.call (.fn f) (args.map (ev t)))

def k_callV (f : Operand) (args : List Operand) (t : Tr Value) (_ : AHeap) : Option R := match callee (ev t f) (args.map (ev t)) with
    | some (c, l) => some (.call c l)
    | none => none

def k_lenStr (x : Operand) (t : Tr Value) (h : AHeap) : Option R := match ev t x with
    | .string s => some (.val (.int .i64 s.size) h)
    | _ => none

def k_lenSl (x : Operand) (t : Tr Value) (h : AHeap) : Option R := match ev t x with
    | .slice _ n _ => some (.val (.int .i64 n) h)
    | _ => none

def k_lenMap (x : Operand) (t : Tr Value) (h : AHeap) : Option R := match ev t x with
    | .map none => some (.val (.int .i64 0) h)
    | .map (some r) => match h.get r with
      | some (.map es) => some (.val (.int .i64 es.length) h)
      | _ => none
    | _ => none

def k_append (zero : List Value) (bytes : Nat) (str : Bool) (x : Operand) (y : Operand) (t : Tr Value) (h : AHeap) : Option R :=
    if bytes ≤ 65536 ∧ zero.length ≤ 65536 then
      match ev t x with
      | .slice _ len _ =>
        match ev t y with
        | .slice none n _ => if n = 0 ∧ !str then (if len ≤ most then appendTo h zero.length (ev t x) [] 0 else none) else none
        | .slice (some a) n _ =>
          if len + n ≤ most ∧ a.spot = none ∧ !str then
            if n = 0 then appendTo h zero.length (ev t x) [] 0 else
            match readN h a.block a.off (n * zero.length) with
            | some new => appendTo h zero.length (ev t x) new n
            | none => none
          else none
        | .string s => if len + s.size ≤ most ∧ str then appendTo h zero.length (ev t x) (s.data.toList.map fun b => .int .u8 b.toNat) s.size else none
        | _ => none
      | _ => none
    else none

def k_copy (size : Nat) (x : Operand) (y : Operand) (t : Tr Value) (h : AHeap) : Option R :=
    match ev t x, ev t y with
    | .slice (some a) m _, .slice b n _ =>
      let k := Nat.min n m
      if k = 0 then some (.val (.int .i64 0) h) else
      match b with
      | some b =>
        match readN h b.block b.off (k * size), h.get a.block with
        | some new, some (.cells cs sz false) =>
          if a.spot = none ∧ b.spot = none ∧ a.off + k * size ≤ cs.length then some (.val (.int .i64 k) (h.put a.block (.cells (setRange cs a.off new) sz false))) else none
        | _, _ => none
      | none => none
    | _, _ => none

def k_max2 (x : Operand) (y : Operand) (t : Tr Value) (h : AHeap) : Option R := match ev t x, ev t y with
    | .int k a, .int k' b => if k = k' then some (.val (.int k (if b > a then b else a)) h) else none
    | _, _ => none

def k_min2 (x : Operand) (y : Operand) (t : Tr Value) (h : AHeap) : Option R := match ev t x, ev t y with
    | .int k a, .int k' b => if k = k' then some (.val (.int k (if b < a then b else a)) h) else none
    | _, _ => none

def k_recover (_ : Tr Value) (_ : AHeap) : Option R := some .rcv

def k_deferV (f : Operand) (args : List Operand) (t : Tr Value) (_ : AHeap) : Option R := match callee (ev t f) (args.map (ev t)) with
    | some (.fn g, l) => some (.dfr (.fn g l))
    | _ => none

def k_panic (x : Operand) (t : Tr Value) (_ : AHeap) : Option R := match ev t x with
    | .iface ty v => some (.pan (.iface ty v))
    | _ => none

def aop : AOp → Tr Value → AHeap → Option R
  | .mv x => k_mv x
  | .pick c a b => k_pick c a b
  | .alloc zero => k_alloc zero
  | .box x => k_box x
  | .build zero parts => k_build zero parts
  | .buildSlice init len size parts => k_buildSlice init len size parts
  | .load1 a => k_load1 a
  | .loadN n a => k_loadN n a
  | .store n a v => k_store n a v
  | .nilCheck x => k_nilCheck x
  | .bin op x y => k_bin op x y
  | .eqNil k neg x y => k_eqNil k neg x y
  | .eqBool neg x y => k_eqBool neg x y
  | .eqAgg ks neg x y => k_eqAgg ks neg x y
  | .un op x => k_un op x
  | .convInt k x => k_convInt k x
  | .convStr x => k_convStr x
  | .bytesToStr x => k_bytesToStr x
  | .strToBytes x => k_strToBytes x
  | .mkIface ty x => k_mkIface ty x
  | .mkFunc f first captured => k_mkFunc f first captured
  | .mkMap => k_mkMap
  | .mkSlice zero bytes l c => k_mkSlice zero bytes l c
  | .sliceSl size x lo hi mx => k_sliceSl size x lo hi mx
  | .sliceStr x lo hi => k_sliceStr x lo hi
  | .sliceArr n size x lo hi => k_sliceArr n size x lo hi
  | .fieldAddr off x => k_fieldAddr off x
  | .part off n x => k_part off n x
  | .idxSl size x i => k_idxSl size x i
  | .idxArr len size x i => k_idxArr len size x i
  | .indexAgg len size agg x i => k_indexAgg len size agg x i
  | .lookup sk zero x i ok => k_lookup sk zero x i ok
  | .mapSet sk m k v => k_mapSet sk m k v
  | .rangeStr x => k_rangeStr x
  | .nextStr x => k_nextStr x
  | .typeIs ty zero x => k_typeIs ty zero x
  | .extract x i => k_extract x i
  | .callF f args => k_callF f args
  | .callV f args => k_callV f args
  | .lenStr x => k_lenStr x
  | .lenSl x => k_lenSl x
  | .lenMap x => k_lenMap x
  | .append zero bytes str x y => k_append zero bytes str x y
  | .copy size x y => k_copy size x y
  | .max2 x y => k_max2 x y
  | .min2 x y => k_min2 x y
  | .recover => k_recover
  | .deferV f args => k_deferV f args
  | .panic x => k_panic x

def putT (t : Tr Value) (dst : Option Nat) (v : Value) : Tr Value :=
  match dst with
  | some d => t.put d v
  | none => t

/-- Whether an operation is carried out. -/
def wantedA (t : Tr Value) (o : AOper) : Option Bool :=
  match o.guard with
  | none => some true
  | some (d, want) => match t.get d with
    | some (.bool b) => some (b == want)
    | some (.chan none) => none
    | _ => some false

/-- One operation. -/
def opStep (K : CallFn) (o : AOper) (s : St) : Option (Ex × St) :=
  match aop o.op s.t s.h with
  | none => none
  | some (.val v h) => some (.norm, { s with t := putT s.t o.dst v, h := h })
  | some (.call c args) =>
    match K c args .no s.h with
    | some (.ret v, _, h) => some (.norm, { s with t := putT s.t o.dst v, h := h })
    | some (.pan v, _, h) => some (.pan v, { s with h := h })
    | none => none
  | some (.dfr d) => if s.rd then none else some (.norm, { s with t := putT s.t o.dst blank, ds := d :: s.ds })
  | some (.pan v) => some (.pan v, s)
  | some .rcv =>
    match s.u with
    | .panicking v => some (.norm, { s with t := putT s.t o.dst v, u := .recovered v })
    | .returning => some (.norm, { s with t := putT s.t o.dst .nilIface })
    | .recovered _ => some (.norm, { s with t := putT s.t o.dst .nilIface })
    | .no => none

def opsRun (K : CallFn) : List AOper → St → Option (Ex × St)
  | [], s => some (.norm, s)
  | o :: rest, s =>
    match wantedA s.t o with
    | none => none
    | some false => opsRun K rest { s with t := putT s.t o.dst blank }
    | some true =>
      match opStep K o s with
      | some (.norm, s') => opsRun K rest s'
      | r => r

/-- What may stand at several places of a region whose order is open: a read, which must come to the same at each of them (the writing operations ahead of it: from lo to hi), or a block that is made, which must not be touched before it is surely there. -/
inductive DChk where
  | read (op : AOp) (t : Tr Value) (v : Value) (lo hi : Nat)
  | made (b : Nat) (o : AObj) (lo hi : Nat)

def veq1 : Value → Value → Bool
  | .bool a, .bool b => a == b
  | .int k a, .int k' b => decide (k = k') && a == b
  | .string a, .string b => a.data.toList == b.data.toList
  | .pointer a, .pointer b => decide (a = b)
  | .slice a m c, .slice b n d => decide (a = b) && m == n && c == d
  | .map a, .map b => decide (a = b)
  | .nilFunc, .nilFunc => true
  | .nilIface, .nilIface => true
  | .func (.func f) ⟨[]⟩ ⟨[]⟩, .func (.func g) ⟨[]⟩ ⟨[]⟩ => f == g
  | .func (.func f) ⟨[.pointer a]⟩ ⟨[]⟩, .func (.func g) ⟨[.pointer b]⟩ ⟨[]⟩ => f == g && decide (a = b)
  | .func (.func f) ⟨[]⟩ ⟨[.pointer a]⟩, .func (.func g) ⟨[]⟩ ⟨[.pointer b]⟩ => f == g && decide (a = b)
  | _, _ => false

def veqL : List Value → List Value → Bool
  | [], [] => true
  | x :: xs, y :: ys => veq1 x y && veqL xs ys
  | _, _ => false

def veq : Value → Value → Bool
  | .agg ⟨a⟩, .agg ⟨b⟩ => veqL a b
  | .tuple ⟨[a, .bool b]⟩, .tuple ⟨[c, .bool d]⟩ => veq1 a c && b == d
  | a, b => veq1 a b

def oeq : AObj → AObj → Bool
  | .cells a m false, .cells b n false => m == n && veqL a b
  | .map [], .map [] => true
  | _, _ => false

def checkAt (h : AHeap) : DChk → Bool
  | .read op t v _ _ =>
    match aop op t h with
    | some (.val v' _) => veq v v'
    | _ => false
  | .made b o _ _ =>
    match h.get b with
    | some o' => oeq o o'
    | none => false

def DChk.within (k : Nat) : DChk → Bool
  | .read _ _ _ lo hi => decide (lo ≤ k ∧ k ≤ hi)
  | .made _ _ lo hi => decide (lo ≤ k ∧ k ≤ hi)

def checkOne (r : DChk) : Nat → List AHeap → Bool
  | _, [] => true
  | k, h :: hs => (!r.within k || checkAt h r) && checkOne r (k + 1) hs

def checkAll (hs : List AHeap) : List DChk → Bool
  | [] => true
  | r :: rs => checkOne r 0 hs && checkAll hs rs

/-- What was written by a region that a panic ended is not known. -/
def forget : List AOper → Tr Value → Tr Value
  | [], t => t
  | o :: rest, t => forget rest (putT t o.dst poison)

def drawnRun (K : CallFn) (all : List AOper) : List AOper → Nat → St → List AHeap → List DChk → Option (Ex × St)
  | [], _, s, hs, rs => if checkAll ((s.h :: hs).reverse) rs then some (.norm, s) else none
  | o :: rest, k, s, hs, rs =>
    match wantedA s.t o with
    | none => none
    | some false => drawnRun K all rest (if o.op.cls = .write then k + 1 else k) { s with t := putT s.t o.dst blank } (if o.op.cls = .write then s.h :: hs else hs) rs
    | some true =>
      match o.op.cls with
      | .write =>
        match opStep K o s with
        | some (.norm, s') => drawnRun K all rest (k + 1) s' (s.h :: hs) rs
        | some (.pan v, s') => if o.alone ∧ checkAll ((s.h :: hs).reverse) rs then some (.pan v, { s' with t := forget all s.t }) else none
        | _ => none
      | .read =>
        match aop o.op s.t s.h with
        | some (.val v h) => drawnRun K all rest k { s with t := putT s.t o.dst v, h := h } hs (.read o.op s.t v o.lo o.hi :: rs)
        | _ => none
      | .alloc =>
        match aop o.op s.t s.h with
        | some (.val v h) =>
          match h.get s.h.next with
          | some ob => drawnRun K all rest k { s with t := putT s.t o.dst v, h := h } hs (if o.hi ≤ k then rs else .made s.h.next ob (k + 1) o.hi :: rs)
          | none => none
        | _ => none
      | .pure =>
        match aop o.op s.t s.h with
        | some (.val v h) => drawnRun K all rest k { s with t := putT s.t o.dst v, h := h } hs rs
        | _ => none

def loopN (f : St → Option (Ex × St)) : Nat → St → Option (Ex × St)
  | 0, _ => none
  | n + 1, s =>
    match f s with
    | some (.norm, s') => loopN f n s'
    | r => r

def loopOf (h : AHeap) (l : Nat) : Option ALoop :=
  match h.get l with
  | some (.loop r) => some r
  | _ => none

/-- A range over a function begins: its block for deferred calls (in a round: that of the loop around it), and its own. -/
def enterA (ro : Option Nat) (s : St) (params : List Tmp) (assign body : ACode) : Option (Nat × List ADef × AHeap) :=
  match ro with
  | none => some (s.h.next + 1, .coll s.h.next :: s.ds, (s.h.push (.defers false)).push (.loop { st := .ready, pend := none, tmps := s.t, params, assign, body }))
  | some l => match loopOf s.h l with
    | some _ => some (s.h.next, s.ds, s.h.push (.loop { st := .ready, pend := none, tmps := s.t, params, assign, body }))
    | none => none

def jumpA : Option Jump → Ex
  | none => .norm
  | some (.exit id) => .exit id
  | some .ret => .ret

def LSt.isBusy : LSt → Bool
  | .busy => true
  | _ => false

def exec (K : CallFn) (n : Nat) (ro : Option Nat) : ACode → St → Option (Ex × St)
  | .skip, s => some (.norm, s)
  | .region ops, s => opsRun K ops s
  | .drawn ops, s => drawnRun K ops ops 0 s [] []
  | .seq a b, s =>
    match exec K n ro a s with
    | some (.norm, s') => exec K n ro b s'
    | r => r
  | .cond c a b, s =>
    match ev s.t c with
    | .bool true => exec K n ro a s
    | .bool false => exec K n ro b s
    | _ => none
  | .block id b, s =>
    match exec K n ro b s with
    | some (.exit i, s') => if i = id then some (.norm, s') else some (.exit i, s')
    | r => r
  | .loop b, s => loopN (exec K n ro b) n s
  | .rangeFunc f params assign body, s =>
    match ev s.t f, enterA ro s params assign body with
    | .func (.func g) first captured, some (l, ds, h) =>
      match K (.fn g) (first.toList ++ [.func (.yield l) #[] #[]] ++ captured.toList) .no h with
      | some (.ret _, _, h') =>
        match loopOf h' l with
        | some r => if r.st.isBusy then none else some (jumpA r.pend, { s with h := h'.put l (.loop { r with st := .over }), ds := ds })
        | none => none
      | some (.pan v, _, h') => some (.pan v, { s with h := h', ds := ds })
      | none => none
    | _, _ => none
  | .exit id, s => some (.exit id, s)
  | .ret, s => some (.ret, s)

def initT : Nat → List Value → Tr Value
  | _, [] => .nil
  | i, v :: vs => (initT (i + 1) vs).put i v

def result1 (s : St) : ARes → Option Value
  | .tmp t => some (ev s.t (.tmp t))
  | .cell t n =>
    match ev s.t (.tmp t) with
    | .pointer (some ⟨b, o, none⟩) =>
      match n with
      | none => read1 s.h b o
      | some n => (readN s.h b o n).map fun cs => .agg ⟨cs⟩
    | _ => none

def results (s : St) (rs : List ARes) : Option Value :=
  match rs with
  | [r] => result1 s r
  | rs => (rs.mapM (result1 s)).map fun vs => .tuple ⟨vs⟩

/-- How a function is left: the deferred calls, one by one. -/
def leave (K : CallFn) (rs : List ARes) : Nat → Rec → St → Option (Res × AHeap)
  | 0, _, _ => none
  | n + 1, u, s =>
    match s.ds with
    | [] =>
      match u with
      | .returning => (results s rs).map fun v => (.ret v, s.h)
      | .panicking v => some (.pan v, s.h)
      | _ => none
    | .coll r :: ds =>
      match s.h.get r with
      | some (.defers false) => leave K rs n u { s with ds := ds, h := s.h.put r (.defers true) }
      | _ => none
    | .fn f args :: ds =>
      match K (.fn f) args u s.h with
      | some (.ret _, u', h) =>
        match u' with
        | .recovered _ => leave K rs n .returning { s with ds := ds, h := h }
        | u' => leave K rs n u' { s with ds := ds, h := h }
      | _ => none

structure ASys where
  fns : Tr AFn

/-- A round ends. -/
def endRoundA (l : Nat) (e : Ex) (s : St) : Option (Res × Rec × AHeap) :=
  match s.ds, loopOf s.h l with
  | [], some r =>
    match e with
    | .norm => some (.ret (.bool true), .no, s.h.put l (.loop { r with st := .ready, pend := none }))
    | .exit id => some (.ret (.bool false), .no, s.h.put l (.loop { r with st := .done, pend := some (.exit id) }))
    | .ret => some (.ret (.bool false), .no, s.h.put l (.loop { r with st := .done, pend := some .ret }))
    | .pan v => some (.pan v, .no, s.h)
  | _, _ => none

def LSt.isReady : LSt → Bool
  | .ready => true
  | _ => false

def putAll (t : Tr Value) : List Tmp → List Value → Tr Value
  | p :: ps, v :: vs => putAll (t.put p v) ps vs
  | _, _ => t

/-- A round of a range over a function. -/
def roundA (K : CallFn) (n l : Nat) (r : ALoop) (args : List Value) (h : AHeap) : Option (Res × Rec × AHeap) :=
  if args.length = r.params.length ∧ r.st.isReady then
    match exec K n (some l) r.assign { t := putAll r.tmps r.params args, ds := [], u := .no, rd := true, h := h } with
    | some (.norm, s1) =>
      match s1.ds, loopOf s1.h l with
      | [], some r1 =>
        if r1.st.isReady then
          match exec K n (some l) r.body { s1 with h := s1.h.put l (.loop { r1 with st := .busy }) } with
          | some (e, s2) => endRoundA l e s2
          | none => none
        else none
      | _, _ => none
    | _ => none
  else none

def callN (S : ASys) : Nat → CallFn
  | 0 => fun _ _ _ _ => none
  | n + 1 => fun c args u h =>
    match c with
    | .fn f =>
      match S.fns.get f with
      | none => none
      | some fn =>
        if args.length = fn.nparams then
          match exec (callN S n) n none fn.body { t := initT 0 args, ds := [], u := u, rd := false, h := h } with
          | some (.norm, s) => (leave (callN S n) fn.results n .returning s).map fun (r, h) => (r, s.u, h)
          | some (.ret, s) => (leave (callN S n) fn.results n .returning s).map fun (r, h) => (r, s.u, h)
          | some (.pan v, s) => (leave (callN S n) fn.results n (.panicking v) s).map fun (r, h) => (r, s.u, h)
          | _ => none
        else none
    | .round l =>
      match u, loopOf h l with
      | .no, some r => roundA (callN S n) n l r args h
      | _, _ => none

end
end Go.Proofs.YtbejfgpeledcjaaGreat.A
namespace Go.Proofs.YtbejfgpeledcjaaGreat.A
noncomputable section
open Go

def tmpsOf : List Operand → List Nat
  | [] => []
  | .tmp t :: l => t :: tmpsOf l
  | _ :: l => tmpsOf l

/-- The operands of an operation. -/
def AOp.opds : AOp → List Operand
  | .mv x | .box x | .load1 x | .loadN _ x | .nilCheck x | .un _ x | .convInt _ x | .convStr x | .bytesToStr x | .strToBytes x | .mkIface _ x | .fieldAddr _ x | .part _ _ x
  | .rangeStr x | .nextStr x | .typeIs _ _ x | .extract x _ | .lenStr x | .lenSl x | .lenMap x | .panic x => [x]
  | .pick c a b => [c, a, b]
  | .alloc _ | .mkMap | .recover => []
  | .build _ ps | .buildSlice _ _ _ ps => ps.map (·.2.2)
  | .store _ a v => [a, v]
  | .bin _ x y | .eqNil _ _ x y | .eqBool _ x y | .eqAgg _ _ x y | .mkSlice _ _ x y | .idxSl _ x y | .idxArr _ _ x y | .indexAgg _ _ _ x y | .lookup _ _ x y _ | .append _ _ _ x y | .copy _ x y | .max2 x y | .min2 x y => [x, y]
  | .mkFunc _ a b => a ++ b
  | .sliceSl _ x lo hi mx => x :: (lo.toList ++ hi.toList ++ mx.toList)
  | .sliceStr x lo hi | .sliceArr _ _ x lo hi => x :: (lo.toList ++ hi.toList)
  | .mapSet _ m k v => [m, k, v]
  | .callF _ args => args
  | .callV f args | .deferV f args => f :: args

/-- A constant that one cell holds. -/
def scalarOk : Value → Bool
  | .bool _ | .int .. | .string _ | .pointer none | .slice none 0 0 | .map none | .nilFunc | .nilIface => true
  | _ => false

def constOk : Value → Bool
  | .agg cs => cs.toList.all scalarOk
  | .iface _ v => scalarOk v
  | v => scalarOk v

def opdOk : Operand → Bool
  | .const v => constOk v
  | _ => true

/-- The constants that an operation lays. -/
def AOp.zeros : AOp → List Value
  | .alloc z | .build z _ | .buildSlice z _ _ _ | .mkSlice z _ _ _ | .append z _ _ _ _ => z
  | _ => []

def AOp.zero1 : AOp → Value
  | .lookup _ z _ _ _ | .typeIs _ z _ => z
  | _ => .bool true

def AOp.ok (o : AOp) : Bool := o.opds.all opdOk && o.zeros.all scalarOk && constOk o.zero1

section
variable (P : Program)

def isAggT (t : TypeId) : Option Bool :=
  match P.underlying t with
  | some (.struct _) | some (.array _ _) => some true
  | some _ => some false
  | none => none

def sizeT (t : TypeId) : Option Nat := (P.info? t).map (·.size)
def bytesT (t : TypeId) : Option Nat := (P.info? t).map (·.bytes)
def zeroT (t : TypeId) : Option Value := (P.info? t).bind (·.zero)
def zeroCellsT (t : TypeId) : Option (List Value) := (zeroT P t).map fun v => v.cells.toList

def kJoin (name : String) (off : Nat) (acc l : Option (List Sk)) : Option (List Sk) :=
  match acc, l with
  | some a, some l => if name != "_" && off == a.length then some (a ++ l) else none
  | _, _ => none

/-- The kinds of the cells of a type whose values are told apart cell by cell. -/
def flatK : Nat → TypeId → Option (List Sk)
  | 0, _ => none
  | d + 1, t =>
    match P.underlying t with
    | some .bool => if sizeT P t == some 1 then some [.b] else none
    | some (.int _) => if sizeT P t == some 1 then some [.i] else none
    | some .string => if sizeT P t == some 1 then some [.s] else none
    | some (.struct fs) =>
      if P.stoodInHeld t then none else
      match fs.toList.foldl (fun acc f => kJoin f.name f.offset acc (flatK d f.type)) (some []) with
      | some ks => if sizeT P t == some ks.length then some ks else none
      | none => none
    | _ => none

def partsOf (fs : Array Go.Field) (ps : List (Nat × Operand)) : Option Parts :=
  ps.mapM fun (i, x) => match fs[i]? with
    | some f => (sizeT P f.type).map fun n => (f.offset, n, x)
    | none => none

def sumZero (z : List Value) (n : Nat) : List Value := (List.replicate n z).flatten

/-- The kind of a map's keys. -/
def keySk (t : TypeId) : Option Sk :=
  match P.underlying t with
  | some (.map k _) => match P.underlying k with
    | some (.int _) => some .i
    | some .string => some .s
    | some .bool => some .b
    | _ => none
  | _ => none

def isNilC : Operand → Bool
  | .const .nilIface => true
  | _ => false

def cNil (k : NilK) (op : BinOp) (x y : Operand) : Option AOp :=
  match op with
  | .eql => some (.eqNil k false x y)
  | .neq => some (.eqNil k true x y)
  | _ => none

def cBin (op : BinOp) (t : TypeId) (x y : Operand) : Option AOp :=
  match P.underlying t with
  | some (.int _) => some (.bin op x y)
  | some .string => match op with
    | .eql => some (.bin .eql x y)
    | .neq => some (.bin .neq x y)
    | _ => none
  | some .bool => match op with
    | .eql => some (.eqBool false x y)
    | .neq => some (.eqBool true x y)
    | _ => none
  | some (.pointer _) => cNil .ptr op x y
  | some (.slice _) => cNil .sl op x y
  | some (.map _ _) => cNil .map op x y
  | some (.func ..) => cNil .fn op x y
  | some (.interface _) =>
    if isNilC x || isNilC y then cNil .iface op x y else none
  | some (.struct _) =>
    match flatK P 20 t with
    | some ks =>
      if P.eqGuardType P.depth t then none else
      match op with
      | .eql => some (.eqAgg ks false x y)
      | .neq => some (.eqAgg ks true x y)
      | _ => none
    | none => none
  | _ => none

def cConv (src dst : TypeId) (x : Operand) : Option AOp :=
  match P.underlying src, P.underlying dst with
  | some (.int _), some (.int k) => some (.convInt k x)
  | some .string, some .string => some (.convStr x)
  | some .string, some (.slice e) => match P.underlying e with
    | some (.int .u8) => some (.strToBytes x)
    | _ => none
  | some (.slice e), some .string => match P.underlying e with
    | some (.int .u8) => some (.bytesToStr x)
    | _ => none
  | _, _ => none

def cBuiltin (b : Builtin) (argTypes : List TypeId) (args : List Operand) : Option AOp :=
  match b, argTypes, args with
  | .len, [t], [x] => match P.underlying t with
    | some .string => some (.lenStr x)
    | some (.slice _) => some (.lenSl x)
    | some (.map _ _) => some (.lenMap x)
    | some (.array n _) => some (.mv (.const (.int .i64 n)))
    | _ => none
  | .append, [t, t'], [x, y] => match P.underlying t, P.underlying t' with
    | some (.slice e), some (.slice _) => match zeroCellsT P e, bytesT P e, sizeT P e with
      | some z, some n, some k => if z.length = k then some (.append z n false x y) else none
      | _, _, _ => none
    | some (.slice e), some .string => match zeroCellsT P e, bytesT P e, sizeT P e with
      | some z, some n, some k => if z.length = k ∧ k = 1 then some (.append z n true x y) else none
      | _, _, _ => none
    | _, _ => none
  | .copy, [t, t'], [x, y] => match P.underlying t, P.underlying t' with
    | some (.slice e), some (.slice _) => (sizeT P e).map fun k => .copy k x y
    | _, _ => none
  | .max, _, [x, y] => some (.max2 x y)
  | .min, _, [x, y] => some (.min2 x y)
  | .recover, _, [] => some .recover
  | _, _, _ => none

def goodFn (f : FuncId) : Bool :=
  match P.funcs[f]? with
  | some fn => fn.name != "runtime.NumGoroutine" && fn.body.isSome
  | none => false

def cOp (o : Op) : Option AOp :=
  match o with
  | .move x | .assign x => some (.mv x)
  | .pick c a b => some (.pick c a b)
  | .alloc e => (zeroCellsT P e).map .alloc
  | .box _ x => some (.box x)
  | .build t ps =>
    match P.underlying t, zeroCellsT P t with
    | some (.struct fs), some z => if fs.toList.all (fun f => (sizeT P f.type).isSome) then (partsOf P fs ps.toList).map (.build z ·) else none
    | some (.array _ e), some z => (sizeT P e).map fun n => .build z (ps.toList.map fun (i, x) => (i * n, n, x))
    | _, _ => none
  | .buildSlice t len ps =>
    match P.underlying t with
    | some (.slice e) => match zeroCellsT P e, sizeT P e with
      | some z, some n => if z.length = n ∧ len * n ≤ 65536 ∧ z.all scalarOk = true then some (.buildSlice (sumZero z len) len n (ps.toList.map fun (i, x) => (i * n, n, x))) else none
      | _, _ => none
    | _ => none
  | .insert t m k v | .mapUpdate t m k v => match keySk P t with
    | some sk => some (.mapSet sk m k v)
    | none => none
  | .load t a => match isAggT P t, sizeT P t with
    | some true, some n => some (.loadN n a)
    | some false, _ => some (.load1 a)
    | _, _ => none
  | .store t a v => (sizeT P t).map fun n => .store n a v
  | .nilCheck x => some (.nilCheck x)
  | .binOp op t x y _ => cBin P op t x y
  | .unOp op _ x => some (.un op x)
  | .convert s d x => cConv P s d x
  | .makeInterface t x => match P.underlying t with
    | some (.interface _) => none
    | some _ => some (.mkIface t x)
    | none => none
  | .makeFunc (.func f) a b => some (.mkFunc f a.toList b.toList)
  | .makeMap _ none => some .mkMap
  | .makeSlice t l c => match P.underlying t with
    | some (.slice e) => match zeroCellsT P e, bytesT P e, sizeT P e with
      | some z, some n, some k => if z.length = k then some (.mkSlice z n l c) else none
      | _, _, _ => none
    | _ => none
  | .slice t x lo hi mx => match P.underlying t with
    | some (.slice e) => if mx.isSome && hi.isNone then none else (sizeT P e).map fun n => .sliceSl n x lo hi mx
    | some .string => if mx.isNone then some (.sliceStr x lo hi) else none
    | some (.array n e) => if mx.isNone then (sizeT P e).map fun k => .sliceArr n k x lo hi else none
    | _ => none
  | .fieldAddr s x i => match P.underlying s with
    | some (.struct fs) => match fs[i]? with
      | some f => match sizeT P f.type with
        | some n => if n = 0 then none else some (.fieldAddr f.offset x)
        | none => none
      | none => none
    | _ => none
  | .field s x i => match P.underlying s with
    | some (.struct fs) => match fs[i]? with
      | some f => match isAggT P f.type, sizeT P f.type with
        | some true, some n => some (.part f.offset (some n) x)
        | some false, some _ => some (.part f.offset none x)
        | _, _ => none
      | none => none
    | _ => none
  | .indexAddr t x i => match P.underlying t with
    | some (.slice e) => (sizeT P e).map fun n => .idxSl n x i
    | some (.array len e) => (sizeT P e).map fun n => .idxArr len n x i
    | _ => none
  | .index t x i => match P.underlying t with
    | some (.array len e) => match isAggT P e, sizeT P e with
      | some b, some n => if len = 0 then none else some (.indexAgg len n b x i)
      | _, _ => none
    | some .string => some (.indexAgg 0 1 false x i)
    | _ => none
  | .lookup t x i ok => match P.underlying t with
    | some (.map _ e) => match keySk P t, zeroT P e with
      | some sk, some z => some (.lookup sk z x i ok)
      | _, _ => none
    | _ => none
  | .range t x => match P.underlying t with
    | some .string => some (.rangeStr x)
    | _ => none
  | .next x true => some (.nextStr x)
  | .typeAssert x _ t true => match P.underlying t, zeroT P t with
    | some (.interface _), _ => none
    | some _, some z => some (.typeIs t z x)
    | _, _ => none
  | .extract x i => some (.extract x i)
  | .call c => match c.callee with
    | .value (.func f) => if goodFn P f then some (.callF f c.args.toList) else none
    | .value f => some (.callV f c.args.toList)
    | .builtin b => cBuiltin P b c.argTypes.toList c.args.toList
    | .invoke .. => none
  | .defer c => match c.callee with
    | .value f => some (.deferV f c.args.toList)
    | _ => none
  | .panic x => some (.panic x)
  | _ => none

def cGuard (ops : List Oper) (g : Option (Nat × Bool)) : Option (Option (Nat × Bool)) :=
  match g with
  | none => some none
  | some (j, want) => match (ops[j]?).bind (·.dst) with
    | some d => some (some (d, want))
    | none => none

def cOpers (ntmps : Nat) (all : List Oper) : List Oper → Option (List AOper)
  | [] => some []
  | o :: rest =>
    match cOp P o.op, cGuard all o.guard, cOpers ntmps all rest with
    | some op, some g, some l => if o.dst.all (· < ntmps) && op.ok then some ({ dst := o.dst, op := op, guard := g } :: l) else none
    | _, _, _ => none

/-- What must stand ahead of an operation, as bits. -/
def ancStep (acc : List Nat) (o : Oper) : Nat :=
  o.after.toList.foldl (fun s e => if Region.binds .any e then s ||| 2 ^ e.on ||| acc.getD e.on 0 else s) 0

def ancAll : List Nat → List Oper → List Nat
  | acc, [] => acc
  | acc, o :: rest => ancAll (acc ++ [ancStep acc o]) rest

def edgesOk : Nat → List Oper → Bool
  | _, [] => true
  | i, o :: rest => o.after.toList.all (fun e => !Region.binds .any e || decide (e.on < i)) && edgesOk (i + 1) rest

end

/-- The slots that an operation reads. -/
def AOper.reads (o : AOper) : List Nat :=
  (match o.guard with | some (d, _) => [d] | none => []) ++ tmpsOf o.op.opds

def AOper.names (o : AOper) : List Nat := o.dst.toList ++ o.reads

/-- Whether an operation comes to something whatever it is given. -/
def AOper.safe (o : AOper) : Bool :=
  o.guard.isNone && (match o.op with | .mv _ | .alloc _ => true | _ => false)

def anc (b : List Nat) (i j : Nat) : Bool := (b.getD i 0).testBit j

/-- Each slot that one operation writes and another one names: one of the two stands ahead for sure. -/
def slotsOk (b : List Nat) (l : List (Nat × AOper)) : Bool :=
  l.all fun (i, x) => match x.dst with
    | none => true
    | some d => l.all fun (j, y) => i == j || !y.names.contains d || (if i < j then anc b j i else anc b i j)

def writesAt (l : List (Nat × AOper)) : List Nat := l.filterMap fun (i, x) => if x.op.cls = .write then some i else none

def chainOk (b : List Nat) : List Nat → Bool
  | i :: j :: l => anc b j i && chainOk b (j :: l)
  | _ => true

def marked (b ws : List Nat) (l : List (Nat × AOper)) : List AOper :=
  l.map fun (i, x) => { x with
    lo := ws.countP (anc b i ·), hi := ws.countP (fun w => !anc b w i),
    alone := l.all fun (j, y) => decide (j ≤ i) || anc b j i || y.safe }

section
variable (P : Program)

def cDrawn (ntmps : Nat) (ops : List Oper) : Option (List AOper) :=
  match cOpers P ntmps ops ops with
  | none => none
  | some l =>
    let b := ancAll [] ops
    let il := (List.range l.length).zip l
    let ws := writesAt il
    if edgesOk 0 ops && slotsOk b il && chainOk b ws then some (marked b ws il) else none

def cCode (ntmps : Nat) : Code → Option ACode
  | .skip => some .skip
  | .label _ => some .skip
  | .region _ ops false => (cOpers P ntmps ops.toList ops.toList).map .region
  | .region _ ops true => (cDrawn P ntmps ops.toList).map .drawn
  | .seq a b => match cCode ntmps a, cCode ntmps b with
    | some a, some b => some (.seq a b)
    | _, _ => none
  | .cond c a b => match cCode ntmps a, cCode ntmps b with
    | some a, some b => some (.cond c a b)
    | _, _ => none
  | .block id b => (cCode ntmps b).map (.block id)
  | .loop b => (cCode ntmps b).map .loop
  | .rangeFunc f ps a b => match cCode ntmps a, cCode ntmps b with
    | some a, some b => if ps.toList.all (· < ntmps) && opdOk f then some (.rangeFunc f ps.toList a b) else none
    | _, _ => none
  | .exit id => some (.exit id)
  | .ret => some .ret
  | .scope b => cCode ntmps b
  | _ => none

def cRes : ResultVar → Option ARes
  | .tmp t => some (.tmp t)
  | .cell t ty => match isAggT P ty, sizeT P ty with
    | some true, some n => some (.cell t (some n))
    | some false, _ => some (.cell t none)
    | _, _ => none

def cFn (f : FuncId) : Option AFn :=
  match P.funcs[f]? with
  | none => none
  | some fn =>
    match fn.body with
    | none => none
    | some c =>
      match cCode P fn.ntmps c, fn.results.toList.mapM (cRes P) with
      | some body, some rs => if fn.params.size + fn.nfree ≤ fn.ntmps ∧ goodFn P f = true then some { nparams := fn.params.size + fn.nfree, ntmps := fn.ntmps, results := rs, body := body } else none
      | _, _ => none

end
end
end Go.Proofs.YtbejfgpeledcjaaGreat.A
namespace Go.Proofs.YtbejfgpeledcjaaGreat.A
noncomputable section
open Go

namespace Tr
variable {α : Type}
theorem get_nil (i : Nat) : (Tr.nil : Tr α).get i = none := rfl
theorem get_zero (v : Option α) (l r : Tr α) : (Tr.node v l r).get 0 = v := rfl
theorem get_succ (v : Option α) (l r : Tr α) (n : Nat) : (Tr.node v l r).get (n + 1) = if n % 2 = 0 then l.get (n / 2) else r.get (n / 2) := by
  show Bool.rec (motive := fun _ => Option α) (r.get (n / 2)) (l.get (n / 2)) (Nat.beq (n % 2) 0) = _
  split
  · rename_i h; rw [h]; rfl
  · rename_i h
    have : Nat.beq (n % 2) 0 = false := by
      cases hb : Nat.beq (n % 2) 0 with
      | false => rfl
      | true => exact absurd (Nat.eq_of_beq_eq_true hb) h
    rw [this]
theorem set_zero (f : Nat) (t : Tr α) (x : α) : set (f + 1) t 0 x = .node (some x) t.left t.right := by cases t <;> rfl
theorem set_succ (f : Nat) (t : Tr α) (n : Nat) (x : α) : set (f + 1) t (n + 1) x = if n % 2 = 0 then .node t.val (set f t.left (n / 2) x) t.right else .node t.val t.left (set f t.right (n / 2) x) := by
  have key : set (f + 1) t (n + 1) x = Bool.rec (motive := fun _ => Tr α) (.node t.val t.left (set f t.right (n / 2) x)) (.node t.val (set f t.left (n / 2) x) t.right) (Nat.beq (n % 2) 0) := by cases t <;> rfl
  rw [key]
  split
  · rename_i h; rw [h]; rfl
  · rename_i h
    have : Nat.beq (n % 2) 0 = false := by
      cases hb : Nat.beq (n % 2) 0 with
      | false => rfl
      | true => exact absurd (Nat.eq_of_beq_eq_true hb) h
    rw [this]
theorem get_set : ∀ (f i : Nat) (t : Tr α) (x : α) (j : Nat), i < f → (set f t i x).get j = if j = i then some x else t.get j := by
  intro f
  induction f with
  | zero => intro i t x j h; omega
  | succ f ih =>
    intro i t x j h
    cases i with
    | zero =>
      rw [set_zero]
      cases j with
      | zero => simp [get_zero]
      | succ j =>
        rw [get_succ]
        cases t with
        | nil => simp [left, right, get_nil]
        | node v l r => simp [left, right, get_succ]
    | succ n =>
      have hn : n / 2 < f := by omega
      rw [set_succ]
      cases j with
      | zero =>
        split
        · rw [get_zero]; cases t <;> rfl
        · rw [get_zero]; cases t <;> rfl
      | succ j =>
        split
        · rename_i hm
          rw [get_succ, ih _ _ _ _ hn]
          split
          · rename_i hj
            have e : (j / 2 = n / 2) ↔ (j + 1 = n + 1) := by omega
            simp only [e]
            cases t <;> simp [left, get_nil, get_succ, hj]
          · rename_i hj
            have e : ¬ (j + 1 = n + 1) := fun h => hj (by rw [Nat.succ.inj h]; exact hm)
            rw [if_neg e]
            cases t <;> simp [right, get_nil, get_succ, hj]
        · rename_i hm
          rw [get_succ, ih _ _ _ _ hn]
          split
          · rename_i hj
            have e : ¬ (j + 1 = n + 1) := fun h => hm (by rw [← Nat.succ.inj h]; exact hj)
            rw [if_neg e]
            cases t <;> simp [left, get_nil, get_succ, hj]
          · rename_i hj
            have e : (j / 2 = n / 2) ↔ (j + 1 = n + 1) := by omega
            simp only [e]
            cases t <;> simp [right, get_nil, get_succ, hj]
theorem get_put (t : Tr α) (i : Nat) (x : α) (j : Nat) : (t.put i x).get j = if j = i then some x else t.get j := get_set _ _ _ _ _ (by omega)
theorem get_put_same (t : Tr α) (i : Nat) (x : α) : (t.put i x).get i = some x := by simp [get_put]
theorem get_put_ne (t : Tr α) {i : Nat} (x : α) {j : Nat} (h : j ≠ i) : (t.put i x).get j = t.get j := by simp [get_put, h]
end Tr

@[simp] theorem AHeap.get_put (h : AHeap) (b : Nat) (o : AObj) (c : Nat) : (h.put b o).get c = if c = b then some o else h.get c := Tr.get_put _ _ _ _
@[simp] theorem AHeap.get_push (h : AHeap) (o : AObj) (c : Nat) : (h.push o).get c = if c = h.next then some o else h.get c := Tr.get_put _ _ _ _
@[simp] theorem AHeap.next_put (h : AHeap) (b : Nat) (o : AObj) : (h.put b o).next = h.next := rfl
@[simp] theorem AHeap.next_push (h : AHeap) (o : AObj) : (h.push o).next = h.next + 1 := rfl

/-- Where a block lies: the concrete block, the place in it, how many cells from there on are its own, and how many an element of a row has. -/
structure Emb where
  cb : Nat
  off : Nat
  room : Nat
  sz : Nat

abbrev Ren := Nat → Option Emb

def Ren.le (ρ σ : Ren) : Prop := ∀ b e, ρ b = some e → σ b = some e
theorem Ren.le.refl (ρ : Ren) : ρ.le ρ := fun _ _ h => h
theorem Ren.le.trans {ρ σ τ : Ren} (h : ρ.le σ) (k : σ.le τ) : ρ.le τ := fun b e x => k b e (h b e x)

def Ren.add (ρ : Ren) (b : Nat) (e : Emb) : Ren := fun c => if c = b then some e else ρ c
theorem Ren.le_add {ρ : Ren} {b : Nat} (e : Emb) (h : ρ b = none) : ρ.le (ρ.add b e) := by
  intro c x hx
  unfold Ren.add
  split
  · rename_i hc; subst hc; rw [h] at hx; cases hx
  · exact hx
@[simp] theorem Ren.add_same (ρ : Ren) (b : Nat) (e : Emb) : ρ.add b e b = some e := by simp [Ren.add]
theorem Ren.add_ne (ρ : Ren) {b c : Nat} (e : Emb) (h : c ≠ b) : ρ.add b e c = ρ c := by simp [Ren.add, h]

abbrev Emb.at (e : Emb) (o : Nat) : Addr := ⟨e.cb, e.off + o, none⟩

/-- A value of the abstract machine stands for a value. -/
inductive VRel (ρ : Ren) : Value → Value → Prop where
  | poison (v : Value) : VRel ρ (.chan none) v
  | bool (b : Bool) : VRel ρ (.bool b) (.bool b)
  | int (k : IntKind) (n : Int) : VRel ρ (.int k n) (.int k n)
  | string (s : ByteArray) : VRel ρ (.string s) (.string s)
  | nilPtr : VRel ρ (.pointer none) (.pointer none)
  | ptr (b o : Nat) (e : Emb) : ρ b = some e → VRel ρ (.pointer (some ⟨b, o, none⟩)) (.pointer (some (e.at o)))
  | nilSlice : VRel ρ (.slice none 0 0) (.slice none 0 0)
  | slice (b o len cap : Nat) (a : Addr) (cap' : Nat) : len ≤ cap' → (cap = 0 → cap' = 0) →
      (0 < cap' → ∃ e, ρ b = some e ∧ a = e.at o ∧ (e.sz = 0 ∨ o + cap' * e.sz ≤ e.room)) →
      VRel ρ (.slice (some ⟨b, o, none⟩) len cap) (.slice (some a) len cap')
  | nilMap : VRel ρ (.map none) (.map none)
  | map (r : Nat) (e : Emb) : ρ r = some e → VRel ρ (.map (some r)) (.map (some e.cb))
  | nilFunc : VRel ρ .nilFunc .nilFunc
  | func (f : FuncId) (a b c d : List Value) : a.length = c.length → b.length = d.length →
      (∀ (i : Nat) (x y : Value), a[i]? = some x → c[i]? = some y → VRel ρ x y) → (∀ (i : Nat) (x y : Value), b[i]? = some x → d[i]? = some y → VRel ρ x y) →
      VRel ρ (.func (.func f) ⟨a⟩ ⟨b⟩) (.func (.func f) ⟨c⟩ ⟨d⟩)
  | yield (l : Nat) (e : Emb) : ρ l = some e → VRel ρ (.func (.yield l) #[] #[]) (.func (.yield e.cb) #[] #[])
  | nilIface : VRel ρ .nilIface .nilIface
  | iface (t : TypeId) (v w : Value) : VRel ρ v w → VRel ρ (.iface t v) (.iface t w)
  | agg (a b : List Value) : a.length = b.length → (∀ (i : Nat) (x y : Value), a[i]? = some x → b[i]? = some y → VRel ρ x y) → (∀ x ∈ b, x.oneCell' = true) → VRel ρ (.agg ⟨a⟩) (.agg ⟨b⟩)
  | tuple (a b : List Value) : a.length = b.length → (∀ (i : Nat) (x y : Value), a[i]? = some x → b[i]? = some y → VRel ρ x y) → VRel ρ (.tuple ⟨a⟩) (.tuple ⟨b⟩)

theorem VRel.mono {ρ σ : Ren} (hs : ρ.le σ) {v w : Value} (h : VRel ρ v w) : VRel σ v w := by
  induction h with
  | poison v => exact .poison v
  | bool b => exact .bool b
  | int k n => exact .int k n
  | string s => exact .string s
  | nilPtr => exact .nilPtr
  | ptr b o e he => exact .ptr b o e (hs _ _ he)
  | nilSlice => exact .nilSlice
  | slice b o len cap a cap' h1 h2 h3 => exact .slice b o len cap a cap' h1 h2 fun h => let ⟨e, he, r⟩ := h3 h; ⟨e, hs _ _ he, r⟩
  | nilMap => exact .nilMap
  | map r e he => exact .map r e (hs _ _ he)
  | nilFunc => exact .nilFunc
  | func f a b c d h1 h2 _ _ ih1 ih2 => exact .func f a b c d h1 h2 ih1 ih2
  | yield l e he => exact .yield l e (hs _ _ he)
  | nilIface => exact .nilIface
  | iface t v w _ ih => exact .iface t v w ih
  | agg a b h _ h1 ih => exact .agg a b h ih h1
  | tuple a b h _ ih => exact .tuple a b h ih

/-- Lists of values, one by one. -/
def LRel (ρ : Ren) (a b : List Value) : Prop := a.length = b.length ∧ ∀ (i : Nat) (x y : Value), a[i]? = some x → b[i]? = some y → VRel ρ x y

theorem LRel.mono {ρ σ : Ren} (hs : ρ.le σ) {a b : List Value} (h : LRel ρ a b) : LRel σ a b := ⟨h.1, fun i x y hx hy => (h.2 i x y hx hy).mono hs⟩
theorem LRel.nil (ρ : Ren) : LRel ρ [] [] := ⟨rfl, fun i x y h => by simp at h⟩
theorem LRel.cons {ρ : Ren} {x y : Value} {a b : List Value} (h : VRel ρ x y) (hl : LRel ρ a b) : LRel ρ (x :: a) (y :: b) := by
  refine ⟨by simp [hl.1], fun i u v hu hv => ?_⟩
  cases i with
  | zero => simp at hu hv; subst hu hv; exact h
  | succ i => simp at hu hv; exact hl.2 i u v hu hv
theorem LRel.head {ρ : Ren} {x y : Value} {a b : List Value} (h : LRel ρ (x :: a) (y :: b)) : VRel ρ x y := h.2 0 x y (by simp) (by simp)
theorem LRel.tail {ρ : Ren} {x y : Value} {a b : List Value} (h : LRel ρ (x :: a) (y :: b)) : LRel ρ a b := ⟨by simpa using h.1, fun i u v hu hv => h.2 (i + 1) u v (by simpa using hu) (by simpa using hv)⟩
theorem LRel.append {ρ : Ren} : ∀ {a b c d : List Value}, LRel ρ a b → LRel ρ c d → LRel ρ (a ++ c) (b ++ d)
  | [], [], _, _, _, h => h
  | x :: a, y :: b, _, _, h, k => .cons h.head (h.tail.append k)
  | [], _ :: _, _, _, h, _ => by have := h.1; simp at this
  | _ :: _, [], _, _, h, _ => by have := h.1; simp at this
theorem LRel.take {ρ : Ren} {a b : List Value} (h : LRel ρ a b) (n : Nat) : LRel ρ (a.take n) (b.take n) := by
  refine ⟨by simp [h.1], fun i x y hx hy => ?_⟩
  rw [List.getElem?_take] at hx hy
  split at hx
  · exact h.2 i x y hx (by split at hy <;> simp_all)
  · cases hx
theorem LRel.drop {ρ : Ren} {a b : List Value} (h : LRel ρ a b) (n : Nat) : LRel ρ (a.drop n) (b.drop n) := by
  refine ⟨by simp [h.1], fun i x y hx hy => ?_⟩
  rw [List.getElem?_drop] at hx hy
  exact h.2 _ x y hx hy
theorem LRel.get {ρ : Ren} {a b : List Value} (h : LRel ρ a b) {i : Nat} {x : Value} (hx : a[i]? = some x) : ∃ y, b[i]? = some y ∧ VRel ρ x y := by
  have hi : i < a.length := (List.getElem?_eq_some_iff.1 hx).1
  have : i < b.length := h.1 ▸ hi
  exact ⟨b[i], by simp [this], h.2 i x _ hx (by simp [this])⟩

theorem VRel.agg' {ρ : Ren} {a b : List Value} (h : LRel ρ a b) (h1 : ∀ x ∈ b, x.oneCell' = true) : VRel ρ (.agg ⟨a⟩) (.agg ⟨b⟩) := .agg a b h.1 h.2 h1
theorem VRel.tuple' {ρ : Ren} {a b : List Value} (h : LRel ρ a b) : VRel ρ (.tuple ⟨a⟩) (.tuple ⟨b⟩) := .tuple a b h.1 h.2
theorem VRel.blank (ρ : Ren) : VRel ρ blank undef := VRel.tuple' (LRel.nil ρ)

/-- The slots. -/
def TRel (ρ : Ren) (t : Tr Value) (s : Array Value) : Prop := ∀ i, VRel ρ ((t.get i).getD blank) (s.getD i undef)
theorem TRel.mono {ρ σ : Ren} (hs : ρ.le σ) {t : Tr Value} {s : Array Value} (h : TRel ρ t s) : TRel σ t s := fun i => (h i).mono hs

def LSt.rel : LSt → LoopState → Prop
  | .ready, .ready | .busy, .busy | .done, .done | .over, .exhausted => True
  | _, _ => False

def Jump.rel : Option Jump → Option Code → Prop
  | none, none => True
  | some (.exit i), some (.exit j) => i = j
  | some .ret, some .ret => True
  | _, _ => False

structure LoopRel (P : Program) (ρ : Ren) (r : ALoop) (l : Loop) : Prop where
  st : r.st.rel l.state
  pend : Jump.rel r.pend l.pending
  tmps : TRel ρ r.tmps l.tmps
  params : l.params.toList = r.params
  small : ∀ p ∈ r.params, p < l.tmps.size
  assign : cCode P l.tmps.size l.assign = some r.assign
  body : cCode P l.tmps.size l.body = some r.body
  fn : (P.funcs[l.fn]?).isSome = true

/-- An object stands for what lies where it lies. -/
def ORel (P : Program) (ρ : Ren) (o : AObj) (e : Emb) (w : World) : Prop :=
  match o with
  | .cells cs sz ro => e.sz = sz ∧ cs.length ≤ e.room ∧
      (∀ (i : Nat) (v : Value), cs[i]? = some v → ∃ v', w.cell? (e.at i) = some v' ∧ VRel ρ v v' ∧ v'.oneCell' = true) ∧
      (ro = false → ∀ i, i < e.room → (w.cell? (e.at i)).isSome = true ∧ w.frozen? (e.at i) = false) ∧ (ro = true → e.room = cs.length)
  | .map es => e.off = 0 ∧ e.room = 1 ∧ ∃ es' clk, w.heap[e.cb]? = some (.map es' clk) ∧ es.length = es'.size ∧
      ∀ (i : Nat) (k v : Value) (m : MapEntry), es[i]? = some (k, v) → es'[i]? = some m → m.key = k ∧ VRel ρ v m.val
  | .loop r => e.off = 0 ∧ e.room = 1 ∧ ∃ l, w.heap[e.cb]? = some (.loop l) ∧ LoopRel P ρ r l
  | .siter s pos => e.off = 0 ∧ e.room = 1 ∧ w.heap[e.cb]? = some (.stringIter s pos)
  | .defers taken => e.off = 0 ∧ e.room = 1 ∧ w.heap[e.cb]? = some (.deferred (if taken then none else some []))
  | .dead => True

def AObj.live : AObj → Bool
  | .dead => false
  | _ => true

def AObj.ro : AObj → Bool
  | .cells _ _ ro => ro
  | _ => false

/-- The block is nobody else's. -/
def Emb.apart (e f : Emb) : Prop := e.cb ≠ f.cb

/-- What lies in the room of an object is as it was. -/
def Same (o : AObj) (e : Emb) (w w' : World) : Prop :=
  match o with
  | .cells .. => ∀ i, i < e.room → w'.cell? (e.at i) = w.cell? (e.at i) ∧ w'.frozen? (e.at i) = w.frozen? (e.at i)
  | .dead => True
  | _ => w'.heap[e.cb]? = w.heap[e.cb]?

theorem LoopRel.mono {P : Program} {ρ σ : Ren} (hs : ρ.le σ) {r : ALoop} {l : Loop} (h : LoopRel P ρ r l) : LoopRel P σ r l :=
  { h with tmps := h.tmps.mono hs }

theorem ORel.mono {P : Program} {ρ σ : Ren} (hs : ρ.le σ) {o : AObj} {e : Emb} {w w' : World} (h : ORel P ρ o e w) (hw : Same o e w w') : ORel P σ o e w' := by
  cases o with
  | cells cs sz ro =>
    obtain ⟨h0, h1, h2, h3, h4⟩ := h
    refine ⟨h0, h1, fun i v hi => ?_, fun hr i hi => ?_, h4⟩
    · have hlt : i < e.room := Nat.lt_of_lt_of_le (List.getElem?_eq_some_iff.1 hi).1 h1
      obtain ⟨v', a, b, c⟩ := h2 i v hi
      exact ⟨v', by rw [(hw i hlt).1, a], b.mono hs, c⟩
    · rw [(hw i hi).1, (hw i hi).2]; exact h3 hr i hi
  | map es =>
    obtain ⟨h0, h1, es', clk, h2, h3, h4⟩ := h
    exact ⟨h0, h1, es', clk, by rw [hw, h2], h3, fun i k v m a b => ⟨(h4 i k v m a b).1, (h4 i k v m a b).2.mono hs⟩⟩
  | loop r =>
    obtain ⟨h0, h1, l, h2, h3⟩ := h
    exact ⟨h0, h1, l, by rw [hw, h2], h3.mono hs⟩
  | siter s pos => obtain ⟨h0, h1, h2⟩ := h; exact ⟨h0, h1, by rw [hw, h2]⟩
  | defers taken => obtain ⟨h0, h1, h2⟩ := h; exact ⟨h0, h1, by rw [hw, h2]⟩
  | dead => trivial

/-- All objects at once. -/
structure HR (P : Program) (ρ : Ren) (g : Nat → Option AObj) (w : World) : Prop where
  obj : ∀ b o e, g b = some o → ρ b = some e → ORel P ρ o e w
  apart : ∀ b c o p e f, b ≠ c → g b = some o → g c = some p → ρ b = some e → ρ c = some f → o.live = true → p.live = true → (o.ro = false ∨ p.ro = false) → e.apart f

/-- What the world had, and what is not of the heap. -/
structure Raw where
  /-- blocks of the world into which nothing of the heap writes -/
  at_ : Nat → Option Obj
  /-- a world with the same outside -/
  env : World
instance : CoeFun Raw (fun _ => Nat → Option Obj) := ⟨Raw.at_⟩

/-- The outside of two worlds is the same. -/
structure EnvEq (v w : World) : Prop where
  os : w.os = v.os
  tape : w.tape = v.tape
  output : w.output = v.output
theorem EnvEq.refl (w : World) : EnvEq w w := ⟨rfl, rfl, rfl⟩
theorem EnvEq.trans {u v w : World} (h : EnvEq u v) (k : EnvEq v w) : EnvEq u w := ⟨k.os.trans h.os, k.tape.trans h.tape, k.output.trans h.output⟩

/-- What is kept beside the heap: blocks that have been made ahead of their time; and the blocks that are yet to be made although the heap has them. -/
structure Bes where
  f : Nat → Option AObj
  ban : Nat → Prop
  raw : Raw
instance : CoeFun Bes (fun _ => Nat → Option AObj) := ⟨Bes.f⟩

/-- The heap, and what else is kept beside it. -/
def AHeap.with (h : AHeap) (G : Bes) (b : Nat) : Option AObj :=
  match h.get b with
  | some o => some o
  | none => G b

structure SR (P : Program) (ρ : Ren) (h : AHeap) (G : Bes) (w : World) : Prop where
  hr : HR P ρ (h.with G) w
  wf : ∀ b o, h.get b = some o → b < h.next
  dom : ∀ b e, ρ b = some e → b < h.next ∨ (G b).isSome = true
  lt : ∀ b o e, h.with G b = some o → ρ b = some e → o.live = true → e.cb < w.heap.size
  ban : ∀ b, G.ban b → b < h.next ∧ ρ b = none
  raw : ∀ k ob, G.raw k = some ob → w.heap[k]? = some ob ∧ ∀ b o e, h.with G b = some o → ρ b = some e → o.live = true → o.ro = false → e.cb ≠ k
  env : EnvEq G.raw.env w

/-- What is kept beside has numbers that are not given away. -/
def Beside (G : Bes) (n : Nat) : Prop := ∀ b, (G b).isSome = true → n ≤ b

theorem Beside.le {G : Bes} {m n : Nat} (h : Beside G n) (k : m ≤ n) : Beside G m := fun b hb => Nat.le_trans k (h b hb)

end
end Go.Proofs.YtbejfgpeledcjaaGreat.A
