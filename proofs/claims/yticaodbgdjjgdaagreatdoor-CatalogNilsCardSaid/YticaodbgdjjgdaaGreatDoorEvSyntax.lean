/-
  The abstract machine: its code ('resolved' operations, in which nothing of the type table is left to look up), out of the model's code.
-/
import GoSem.Dispatch
import GoSem.Machine.Frame
set_option linter.unusedVariables false
set_option linter.unusedSimpArgs false
namespace Go.Ev

/-- An operand: a temporary, or a value that is known. -/
inductive Arg where
  | t (n : Nat)
  | c (v : Value)
  deriving Inhabited

/-- How two values are compared cell by cell. -/
inductive CK where
  | int | str | bool | skip
  deriving DecidableEq, Inhabited

def negOf (op : BinOp) : Bool := match op with | .neq => true | _ => false

/-- The kinds of what may be nil. -/
inductive NK where
  | sl | mp | fn | ifc
  deriving DecidableEq, Inhabited

inductive Cop where
  | mov (x : Arg)
  | pick (c a b : Arg)
  | box (T : TypeId) (x : Arg)
  | alloc (T : TypeId) (zero : List Value)
  | build (zero : List Value) (parts : List (Nat × Nat × Arg))
  | buildSlice (T : TypeId) (len : Nat) (cells : List Value) (parts : List (Nat × Nat × Arg))
  | load1 (a : Arg)
  | loadN (n : Nat) (a : Arg)
  | store (n : Nat) (a x : Arg)
  | nilCheck (x : Arg)
  | bin (op : BinOp) (x y : Arg)
  | eqBool (neg : Bool) (x y : Arg)
  | eqPtr (neg : Bool) (x y : Arg)
  | eqNil (neg : Bool) (k : NK) (x : Arg)
  | eqCells (neg : Bool) (n : Nat) (ks : List (Nat × CK)) (x y : Arg)
  | un (op : UnOp) (x : Arg)
  | convI (k : IntKind) (x : Arg)
  | convSB (T : TypeId) (x : Arg)
  | convBS (x : Arg)
  | convIS (x : Arg)
  | convSS (x : Arg)
  | same (x : Arg)
  | iface (T : TypeId) (x : Arg)
  | mkFunc (fn : Fn) (first captured : List Arg)
  | mkMap (h : Option Arg)
  | mkSlice (T : TypeId) (bytes : Nat) (zero : List Value) (l c : Arg)
  | sliceS (x : Arg) (lo hi : Option Arg)
  | sliceV (size : Nat) (x : Arg) (lo hi mx : Option Arg)
  | sliceA (n size : Nat) (x : Arg) (lo hi mx : Option Arg)
  | faddr (off : Nat) (x : Arg)
  | iaddrA (n size : Nat) (x i : Arg)
  | iaddrV (size : Nat) (x i : Arg)
  | fieldV (agg : Bool) (off n : Nat) (x : Arg)
  | idxA (agg : Bool) (n size : Nat) (x i : Arg)
  | idxS (x i : Arg)
  | lookup (ks : Option (List CK)) (zero : Value) (ok : Bool) (m k : Arg)
  | mapSet (ks : Option (List CK)) (m k x : Arg)
  | rangeS (x : Arg)
  | nextS (it : Arg)
  | rangeM (x : Arg)
  | nextM (it : Arg)
  | entryM (it : Arg)
  | extract (x : Arg) (i : Nat)
  | callF (f : FuncId) (args : List Arg)
  | callV (f : Arg) (args : List Arg)
  | lenC (n : Nat)
  | lenS (x : Arg)
  | lenV (x : Arg)
  | lenM (x : Arg)
  | capV (x : Arg)
  | append (T : TypeId) (size bytes : Nat) (s x : Arg)
  | appendZ (T : TypeId) (size bytes : Nat) (zero : List Value) (s n : Arg)
  | copy (size : Nat) (d s : Arg)
  | delete (ks : Option (List CK)) (m k : Arg)
  | clearM (m : Arg)
  | clearV (zero : List Value) (s : Arg)
  | minmax (mx : Bool) (xs : List Arg)
  | toUnsafe (x : Arg)
  | ofUnsafe (T : TypeId) (n : Nat) (x : Arg)
  | sliceData (x : Arg)
  | unsafeStr (T : TypeId) (p n : Arg)
  deriving Inhabited

/-- An operation: where its value goes, when it is done, its place in the text, and which reads in front of it are looked at again behind it. -/
structure COper where
  dst : Option Nat
  op : Cop
  guard : Option (Option Nat × Bool)
  ix : Nat
  again : List (Option Nat × Cop × Option (Option Nat × Bool))
  deriving Inhabited

inductive CCode where
  | skip
  | region (news : Nat) (ops : List COper)
  | many (news : Nat) (ops : List COper)
  | mapRange (news0 : Nat) (pre : List COper) (x : Arg) (tr tn tk te : Nat) (news : Nat) (ops : List COper) (id b2 : Nat) (body : CCode)
  | seq (a b : CCode)
  | cond (c : Arg) (thn els : CCode)
  | block (id : Nat) (body : CCode)
  | loop (body : CCode)
  | exit (id : Nat)
  | ret
  | rangeFunc (f : Arg) (params : List Nat) (assign body : CCode)
  | no
  deriving Inhabited

inductive CRes where
  | tmp (t : Nat)
  | cell (a : Nat) (agg : Bool) (n : Nat)
  deriving Inhabited

structure CFunc where
  ntmps : Nat
  body : CCode
  res : List CRes
  deriving Inhabited

/- The resolving. -/
section
variable (P : Program)

def rArg : Operand → Arg
  | .tmp t => .t t
  | .const v => .c v
  | .global g => .c (.pointer (some ⟨g, 0, none⟩))
  | .func f => .c (.func (.func f) #[] #[])

/-- A value of one cell without an address. -/
def plainC : Value → Bool
  | .bool _ | .int _ _ | .string _ | .pointer none | .slice none 0 0 | .map none | .nilFunc | .nilIface => true
  | _ => false
def plainV (v : Value) : Bool := v.cells.toList.all plainC
def plainX (P : Program) : Operand → Bool
  | .const v => plainV v
  | .global g => decide (g < P.globals.size)
  | _ => true
def zeroOf (t : TypeId) : Option Value := match (P.info? t).bind (·.zero) with
  | some z => if plainV z then some z else none
  | none => none
def sizeOf? (t : TypeId) : Option Nat := (P.info? t).map (·.size)
def bytesOf? (t : TypeId) : Option Nat := (P.info? t).map (·.bytes)
def isAgg? (t : TypeId) : Option Bool := (P.underlying t).map fun | .struct _ | .array _ _ => true | _ => false

/-- How the cells of a value of a type are compared: none: not so. -/
def cksOf : Nat → TypeId → Option (List CK)
  | 0, _ => none
  | n + 1, t =>
    match P.underlying t with
    | some .bool => some [.bool]
    | some (.int _) => some [.int]
    | some .string => some [.str]
    | some (.array len e) => (cksOf n e).map fun l => (List.replicate len l).flatten
    | some (.struct fs) => fs.toList.foldr (fun f acc => match cksOf n f.type, acc with
        | some l, some m => some ((if f.name == "_" then l.map (fun _ => CK.skip) else l) ++ m)
        | _, _ => none) (some [])
    | _ => none

/-- What of a value is compared: at which cells, and how; none: not so. -/
def shiftL (o : Nat) (l : List (Nat × CK)) : List (Nat × CK) := l.map fun p => (o + p.1, p.2)
def leaves : Nat → TypeId → Option (List (Nat × CK))
  | 0, _ => none
  | n + 1, t =>
    match P.underlying t with
    | some .bool => some [(0, .bool)]
    | some (.int _) => some [(0, .int)]
    | some .string => some [(0, .str)]
    | some (.array len e) => match leaves n e, sizeOf? P e with
      | some l, some m => if l.all fun p => decide (p.1 < m) then some ((List.range len).flatMap fun i => shiftL (i * m) l) else none
      | _, _ => none
    | some (.struct fs) => if P.stoodInHeld t then none else (fs.toList.mapM fun (f : Field) => if f.name == "_" then some [] else match leaves n f.type, sizeOf? P f.type with
        | some l, some m => if l.all fun p => decide (p.1 < m) then some (shiftL f.offset l) else none
        | _, _ => none).map List.flatten
    | _ => none
/-- Keys that are compared by what they are. -/
def plainKey (t : TypeId) : Option CK := match P.underlying t with
  | some .bool => some .bool
  | some (.int _) => some .int
  | some .string => some .str
  | _ => none

def isNilX (k : NK) (x : Operand) : Bool := match k, x with
  | .sl, .const (.slice none 0 0) | .mp, .const (.map none) | .fn, .const .nilFunc | .ifc, .const .nilIface => true
  | _, _ => false
def rNil (neg : Bool) (k : NK) (x y : Operand) : Option Cop :=
  if isNilX k x then some (.eqNil neg k (rArg y)) else if isNilX k y then some (.eqNil neg k (rArg x)) else none

def rOp : Op → Option Cop
  | .move x | .assign x => some (.mov (rArg x))
  | .pick c a b => some (.pick (rArg c) (rArg a) (rArg b))
  | .alloc t => (zeroOf P t).map fun z => .alloc t z.cells.toList
  | .box t x => some (.box t (rArg x))
  | .build t parts =>
    match P.underlying t, zeroOf P t with
    | some (.struct fields), some z =>
      if !fields.toList.all (fun f => (sizeOf? P f.type).isSome) then none else
      (parts.toList.mapM fun (p : Nat × Operand) => do
        let f : Field ← fields[p.1]?
        let n ← sizeOf? P f.type
        some (f.offset, n, rArg p.2)).map fun (ps : List (Nat × Nat × Arg)) => .build z.cells.toList ps
    | some (.array _ e), some z => (sizeOf? P e).map fun n => .build z.cells.toList (parts.toList.map fun (i, x) => (i * n, n, rArg x))
    | _, _ => none
  | .buildSlice t len parts =>
    match P.underlying t with
    | some (.slice e) => do
      let n ← sizeOf? P e
      let z ← zeroOf P e
      if len * n > 4096 || n == 0 || z.cells.size != n then none
      else some (.buildSlice e len ((List.replicate len z.cells.toList).flatten) (parts.toList.map fun (i, x) => (i * n, n, rArg x)))
    | _ => none
  | .load t a => match isAgg? P t with
    | some false => some (.load1 (rArg a))
    | some true => (sizeOf? P t).map fun n => .loadN n (rArg a)
    | none => none
  | .store t a x => (sizeOf? P t).map fun n => .store n (rArg a) (rArg x)
  | .nilCheck x => some (.nilCheck (rArg x))
  | .binOp op t x y _ =>
    match op with
    | .eql | .neq =>
      let neg := negOf op
      match P.underlying t with
      | some (.int _) | some .string => some (.bin op (rArg x) (rArg y))
      | some .bool => some (.eqBool neg (rArg x) (rArg y))
      | some (.pointer e) => match sizeOf? P e with
        | some (_ + 1) => some (.eqPtr neg (rArg x) (rArg y))
        | _ => none
      | some (.slice _) => rNil neg .sl x y
      | some (.map _ _) => rNil neg .mp x y
      | some (.func _ _ _) => rNil neg .fn x y
      | some (.interface _) => rNil neg .ifc x y
      | some (.struct _) | some (.array _ _) => match leaves P 20 t, sizeOf? P t, isAgg? P t with
        | some l, some n, some true => if P.eqGuardType P.depth t || !(l.all fun p => decide (p.1 < n)) then none else some (.eqCells neg n l (rArg x) (rArg y))
        | _, _, _ => none
      | _ => none
    | _ => some (.bin op (rArg x) (rArg y))
  | .unOp op _ x => some (.un op (rArg x))
  | .convert s d x =>
    match P.underlying s, P.underlying d with
    | some (.int _), some (.int k) => some (.convI k (rArg x))
    | some .string, some .string => some (.same (rArg x))
    | some (.int _), some .string => some (.convIS (rArg x))
    | some .string, some (.slice e) => match P.underlying e with
      | some (.int .u8) => some (.convSB e (rArg x))
      | _ => none
    | some (.slice e), some .string => match P.underlying e with
      | some (.int .u8) => some (.convBS (rArg x))
      | _ => none
    | some (.pointer t), some .unsafePointer => match sizeOf? P t with
      | some (_ + 1) => some (.toUnsafe (rArg x))
      | _ => none
    | some .unsafePointer, some (.pointer u) => match sizeOf? P u with
      | some (n + 1) => if liesAt P P.depth u ((n + 1) / P.cellsOf u) 0 u 1 then some (.ofUnsafe u (n + 1) (rArg x)) else none
      | _ => none
    | _, _ => none
  | .makeInterface t x => match P.underlying t with
    | some (.interface _) | none => none
    | some _ => some (.iface t (rArg x))
  | .makeFunc (.func f) a b => some (.mkFunc (.func f) (a.toList.map rArg) (b.toList.map rArg))
  | .makeMap _ none => some (.mkMap none)
  | .makeMap t (some h) => match P.underlying t with
    | some (.map _ _) => some (.mkMap (some (rArg h)))
    | _ => none
  | .makeSlice t l c => match P.underlying t with
    | some (.slice e) => do
      let z ← zeroOf P e
      let b ← bytesOf? P e
      let n ← sizeOf? P e
      if z.cells.size != n || n == 0 then none else some (.mkSlice e b z.cells.toList (rArg l) (rArg c))
    | _ => none
  | .slice t x lo hi mx => match P.underlying t with
    | some .string => match mx with
      | none => some (.sliceS (rArg x) (lo.map rArg) (hi.map rArg))
      | some _ => none
    | some (.slice e) => if mx.isSome && hi.isNone then none else (sizeOf? P e).bind fun n => if n == 0 then none else some (.sliceV n (rArg x) (lo.map rArg) (hi.map rArg) (mx.map rArg))
    | some (.array len e) => if mx.isSome && hi.isNone || decide (1099511627776 ≤ len) then none else (sizeOf? P e).map fun n => .sliceA len n (rArg x) (lo.map rArg) (hi.map rArg) (mx.map rArg)
    | _ => none
  | .fieldAddr s x f => match P.underlying s with
    | some (.struct fields) => do
      let f : Field ← fields[f]?
      let n ← sizeOf? P f.type
      if n == 0 then none else some (.faddr f.offset (rArg x))
    | _ => none
  | .field s x f => match P.underlying s with
    | some (.struct fields) => do
      let f : Field ← fields[f]?
      let a ← isAgg? P f.type
      let n ← sizeOf? P f.type
      some (.fieldV a f.offset n (rArg x))
    | _ => none
  | .indexAddr t x i => match P.underlying t with
    | some (.array len e) => (sizeOf? P e).map fun n => .iaddrA len n (rArg x) (rArg i)
    | some (.slice e) => (sizeOf? P e).map fun n => .iaddrV n (rArg x) (rArg i)
    | _ => none
  | .index t x i => match P.underlying t with
    | some (.array len e) => do
      let a ← isAgg? P e
      let n ← sizeOf? P e
      some (.idxA a len n (rArg x) (rArg i))
    | some .string => some (.idxS (rArg x) (rArg i))
    | _ => none
  | .lookup t m k ok => match P.underlying t with
    | some (.map kt e) => do
      let z ← zeroOf P e
      let c ← plainKey P kt
      some (.lookup (some [c]) z ok (rArg m) (rArg k))
    | _ => none
  | .mapUpdate t m k x | .insert t m k x => match P.underlying t with
    | some (.map kt _) => do
      let c ← plainKey P kt
      some (.mapSet (some [c]) (rArg m) (rArg k) (rArg x))
    | _ => none
  | .range t x => match P.underlying t with
    | some .string => some (.rangeS (rArg x))
    | _ => none
  | .next it true => some (.nextS (rArg it))
  | .extract x i => some (.extract (rArg x) i)
  | .call c => match c.callee with
    | .value (.func f) => some (.callF f (c.args.toList.map rArg))
    | .value f => some (.callV (rArg f) (c.args.toList.map rArg))
    | .invoke _ _ => none
    | .builtin b =>
      match b, c.args.toList, c.argTypes.toList with
      | .len, [x], t :: _ => match P.underlying t with
        | some .string => some (.lenS (rArg x))
        | some (.slice _) => some (.lenV (rArg x))
        | some (.map _ _) => some (.lenM (rArg x))
        | some (.array n _) => some (.lenC n)
        | some (.pointer a) => match P.underlying a with
          | some (.array n _) => some (.lenC n)
          | _ => none
        | _ => none
      | .cap, [x], t :: _ => match P.underlying t with
        | some (.slice _) => some (.capV (rArg x))
        | some (.array n _) => some (.lenC n)
        | _ => none
      | .append, [s, x], [t, u] => match P.underlying t, P.underlying u with
        | some (.slice e), some (.int _) => do
          let n ← sizeOf? P e
          let b ← bytesOf? P e
          let z ← zeroOf P e
          if n == 0 || b == 0 || z.cells.size != n || decide (65536 ≤ n) then none else some (.appendZ e n b z.cells.toList (rArg s) (rArg x))
        | some (.slice e), some (.slice _) => do
          let n ← sizeOf? P e
          let b ← bytesOf? P e
          let z ← zeroOf P e
          if n == 0 || b == 0 || z.cells.size != n || decide (65536 ≤ n) then none else some (.append e n b (rArg s) (rArg x))
        | some (.slice e), some .string => do
          let n ← sizeOf? P e
          let b ← bytesOf? P e
          let z ← zeroOf P e
          if n != 1 || b == 0 || z.cells.size != n then none else some (.append e n b (rArg s) (rArg x))
        | _, _ => none
      | .copy, [d, s], t :: _ => match P.underlying t with
        | some (.slice e) => (sizeOf? P e).map fun n => .copy n (rArg d) (rArg s)
        | _ => none
      | .delete, [m, k], t :: _ => match P.underlying t with
        | some (.map kt _) => do
          let c ← plainKey P kt
          some (.delete (some [c]) (rArg m) (rArg k))
        | _ => none
      | .clear, [x], t :: _ => match P.underlying t with
        | some (.map _ _) => some (.clearM (rArg x))
        | _ => none
      | .min, xs, t :: _ => match P.underlying t with
        | some (.int _) => some (.minmax false (xs.map rArg))
        | _ => none
      | .unsafeSliceData, [x], _ => some (.sliceData (rArg x))
      | .unsafeString, [x, n], [t, _] => match P.underlying t with
        | some (.pointer u) => if P.cellsOf u == 1 then some (.unsafeStr u (rArg x) (rArg n)) else none
        | _ => none
      | .max, xs, t :: _ => match P.underlying t with
        | some (.int _) => some (.minmax true (xs.map rArg))
        | _ => none
      | _, _, _ => none
  | _ => none

/-- What an operation does to memory: nothing; it reads; it makes; it may write. -/
inductive Cl where
  | p | l | n | w
  deriving DecidableEq, Inhabited
def Cop.cl : Cop → Cl
  | .load1 _ | .loadN _ _ | .sliceV _ _ _ _ _ | .sliceA _ _ _ _ _ _ | .eqPtr _ _ _ | .lookup _ _ _ _ _ | .lenM _ | .convBS _ | .entryM _ | .toUnsafe _ | .ofUnsafe _ _ _ => .l
  | .box _ _ | .alloc _ _ | .buildSlice _ _ _ _ | .mkMap _ | .mkSlice _ _ _ _ _ | .convSB _ _ | .rangeS _ => .n
  | .store _ _ _ | .mapSet _ _ _ _ | .append _ _ _ _ _ | .appendZ _ _ _ _ _ _ | .copy _ _ _ | .delete _ _ _ | .clearM _ | .clearV _ _
  | .nextS _ | .nextM _ | .rangeM _ | .convSS _ | .unsafeStr _ _ _ | .callF _ _ | .callV _ _ => .w
  | _ => .p

def isCall (c : Cop) : Bool := match c with | .callF _ _ | .callV _ _ => true | _ => false
def isValueCall (op : Op) : Bool := match op with
  | .call c => (match c.callee with | .value _ => true | _ => false)
  | _ => false

def rOper (nt : Nat) (ops : Array Oper) (o : Oper) (i : Nat) : Option COper :=
  match rOp P o.op with
  | none => none
  | some c => if (isCall c == isValueCall o.op) && (o.dst.map fun d => decide (d < nt)).getD true && o.op.operands.toList.all (plainX P) then some { dst := o.dst, op := c, guard := o.guard.map fun (j, want) => ((ops[j]?).bind (·.dst), want), ix := i, again := [] } else none

/-- An order in which what makes comes late, and what reads early. 'left': the numbers that are not placed yet; 'done': those that are, as bits. -/
def sortFwd (b : Nat → Nat) (cl : Nat → Cl) : Nat → Nat → List Nat → List Nat → List Nat
  | 0, _, _, acc => acc.reverse
  | f + 1, done, left, acc =>
    let free := left.filter fun i => Nat.land (b i) done == b i
    let w0 := left.find? fun i => cl i == .w
    let pick := (free.find? fun i => cl i == .p || cl i == .l).or ((free.find? fun i => cl i == .w).or
      ((free.find? fun i => match w0 with | some w => (b w).testBit i | none => true).or free.head?))
    match pick with
    | some i => sortFwd b cl f (done + 2 ^ i) (left.filter (· != i)) (i :: acc)
    | none => acc.reverse

def apart (b : Array Nat) (i j : Nat) : Bool := !(b.getD j 0).testBit i && !(b.getD i 0).testBit j
/-- Does an order keep to what is asked? 'loud': the numbers of all operations that look at memory. -/
def fine (b : Array Nat) (cl : Array Cl) (loud : List Nat) (pos : Nat → Nat) : Bool :=
  loud.all fun i => loud.all fun j => i == j ||
    match cl.getD i .p, cl.getD j .p with
    | .w, .w => !apart b i j
    | .n, .w => decide (pos j < pos i) || !apart b i j
    | .l, .w => decide (pos i < pos j) || !apart b i j
    | .l, .n => decide (pos i < pos j) || !apart b i j
    | _, _ => true
def isOrder (b : Array Nat) (n : Nat) (order : List Nat) : Bool :=
  order.length == n && (List.range n).all (fun i => order.contains i) &&
  (order.zipIdx.all fun (i, k) => (order.drop k).all fun j => !(b.getD i 0).testBit j)

def distinct : List Nat → Bool
  | [] => true
  | x :: l => !l.contains x && distinct l
/-- The temporaries that an operation reads. -/
def readsOf (ops : Array Oper) (o : Oper) : List Nat :=
  o.op.operands.toList.filterMap (fun x => match x with | .tmp t => some t | _ => none) ++ (match o.guard with | some (j, _) => ((ops[j]?).bind (·.dst)).toList | none => [])
def isMove (op : Op) : Bool := match op with | .move _ => true | _ => false
/-- What is written is written once, and read behind that alone (or, by a plain move, in front of it). -/
def once (ops : Array Oper) (b : Array Nat) : Bool :=
  distinct (ops.toList.filterMap (·.dst)) &&
  (ops.toList.zipIdx.all fun (o, i) => (readsOf ops o).all fun t => ops.toList.zipIdx.all fun (p, j) => p.dst != some t || (b.getD i 0).testBit j || (isMove o.op && (b.getD j 0).testBit i)) &&
  ops.toList.all fun o => o.after.toList.all fun e => decide (e.on < ops.size)

/-- Is 'pos' where the numbers stand in an order? -/
def isPos (n : Nat) (order : List Nat) (pos : Nat → Nat) : Bool :=
  (order.zipIdx.all fun (i, k) => pos i == k && decide (i < n)) && (List.range n).all fun i => order[pos i]? == some i
/-- The operations in an order, each write with the reads that it is apart from. -/
def look (b : Array Nat) (arr : Array COper) (order : List Nat) : Option (List COper) :=
  order.mapM fun j => (arr[j]?).map fun o =>
    match o.op.cl with
    | .w => { o with again := (List.range arr.size).filterMap fun i => (arr[i]?).bind fun c => if c.op.cl == .l && apart b i j then some (c.dst, c.op, c.guard) else none }
    | _ => o
def good (ops : Array Oper) (b : Array Nat) (arr : Array COper) (order : List Nat) (pos : Nat → Nat) : Bool :=
  isOrder b arr.size order && isPos arr.size order pos &&
  fine b (arr.map (·.op.cl)) ((List.range arr.size).filter fun i => (arr.map (·.op.cl)).getD i .p != .p) pos

/-- The operations of a region whose order is open, in an order of ours. -/
def reorder (ops : Array Oper) (cs : List COper) : Option (List COper) :=
  let b := Region.before ops
  let arr := cs.toArray
  let n := arr.size
  if !once ops b then none
  else if good ops b arr (List.range n) (fun i => i) then look b arr (List.range n)
  else
    let cl := arr.map (·.op.cl)
    let order := sortFwd (fun i => b.getD i 0) (fun i => cl.getD i .p) n 0 (List.range n) []
    let pos := order.zipIdx.foldl (fun (a : Array Nat) (x : Nat × Nat) => a.setIfInBounds x.1 x.2) (Array.replicate n 0)
    if good ops b arr order (fun i => pos.getD i 0) then look b arr order else none

def rRegion (nt : Nat) (ops : Array Oper) (draw : Bool) : CCode :=
  match ops.toList.zipIdx.mapM (fun (o, i) => rOper P nt ops o i) with
  | some l =>
    let news := if l.any fun o => o.op.cl == .n || (match o.op with | .rangeM _ => true | _ => false) then l.length else 0
    if draw then (match reorder ops l with
      | some l => .region news l
      | none => .no)
    else if l.any fun o => isCall o.op then .many news l else .region news l
  | none => .no

/-- How many numbers a region keeps for what it makes. -/
def newsOf (n : Nat) (l : List COper) : Nat := if l.any fun o => o.op.cl == .n then n else 0
/-- What stands in a loop over a map: the region that ends in 'range', the block, its round. -/
structure MapLoop where
  pre : List COper
  x : Operand
  mt : TypeId
  tr : Nat
  tn : Nat
  tk : Nat
  te : Nat
  ops2 : List COper
/-- The range at a region's end. -/
def rangeAt (ops : Array Oper) : Option (TypeId × Operand × Nat) := match ops.back? with
  | some o => match o.op, o.guard, o.dst with
    | .range t x, none, some tr => some (t, x, tr)
    | _, _, _ => none
  | none => none
def nextAt (ops : Array Oper) (tr : Nat) : Option (Nat × Nat) := match ops.toList with
  | [a, b] => match a.op, a.guard, a.dst, b.op, b.guard, b.dst with
    | .next (.tmp t) false, none, some tn, .extract (.tmp u) 0, none, some tk => if t == tr && u == tn then some (tn, tk) else none
    | _, _, _, _, _, _ => none
  | _ => none
def entryAt (ops : Array Oper) (tr : Nat) : Option Nat := match ops.toList with
  | a :: _ => match a.op, a.guard, a.dst with
    | .entry (.tmp t), none, some te => if t == tr then some te else none
    | _, _, _ => none
  | _ => none
def isMapT (t : TypeId) : Bool := match P.underlying t with | some (.map _ _) => true | _ => false
def rMapLoop (nt : Nat) (ops ops1 ops2 : Array Oper) (tk0 : Nat) : Option MapLoop :=
  match rangeAt ops with
  | none => none
  | some (t, x, tr) => match nextAt ops1 tr, entryAt ops2 tr, ops.toList.zipIdx.dropLast.mapM (fun (o, i) => rOper P nt ops o i), (ops2.toList.zipIdx.drop 1).mapM (fun (o, i) => rOper P nt ops2 o i) with
    | some (tn, tk), some te, some pre, some l2 =>
      if isMapT P t && plainX P x && tk == tk0 && tn != tr && tk != tr && decide (tr < nt) && decide (tn < nt) && decide (tk < nt) && decide (te < nt) then some ⟨pre, x, t, tr, tn, tk, te, l2⟩ else none
    | _, _, _, _ => none

/-- What is done with an entry. -/
def bodyOf : CCode → Option CCode
  | .block _ (.loop (.seq _ (.seq _ (.block _ (.seq _ body))))) => some body
  | _ => none
/-- A loop over a map. 'rb': the loop, resolved. -/
def rMap (nt : Nat) (a b : Code) (rb : CCode) : Option CCode := match a, b with
  | .region _ ops false, .block bid (.loop (.seq (.region _ ops1 false) (.seq (.cond (.tmp tk) .skip (.exit bx)) (.block b2 (.seq (.region _ ops2 false) _))))) =>
    if bx == bid then (match rMapLoop P nt ops ops1 ops2 tk, bodyOf rb with
      | some m, some body => some (.mapRange (newsOf ops.size m.pre) m.pre (rArg m.x) m.tr m.tn m.tk m.te (newsOf ops2.size m.ops2) m.ops2 bid b2 body)
      | _, _ => none) else none
  | _, _ => none

def rCode (nt : Nat) : Code → CCode
  | .skip => .skip
  | .region _ ops draw => rRegion P nt ops draw
  | .seq a b => (rMap P nt a b (rCode nt b)).getD (.seq (rCode nt a) (rCode nt b))
  | .cond c a b => if plainX P c then .cond (rArg c) (rCode nt a) (rCode nt b) else .no
  | .block id b => .block id (rCode nt b)
  | .loop b => .loop (rCode nt b)
  | .exit id => .exit id
  | .ret => .ret
  | .rangeFunc _ _ _ _ => .no
  | .scope b => rCode nt b
  | .label _ => .skip
  | .goto _ => .no
  | .refuse _ => .no

def rRes : ResultVar → Option CRes
  | .tmp t => some (.tmp t)
  | .cell a t => do
    let g ← isAgg? P t
    let n ← sizeOf? P t
    some (.cell a g n)

def rFunc (f : FuncId) : Option CFunc :=
  match P.funcs[f]? with
  | some fn => match fn.body, fn.results.toList.mapM (rRes P) with
    | some b, some rs => some { ntmps := fn.ntmps, body := rCode P fn.ntmps b, res := rs }
    | _, _ => none
  | none => none
end
end Go.Ev
