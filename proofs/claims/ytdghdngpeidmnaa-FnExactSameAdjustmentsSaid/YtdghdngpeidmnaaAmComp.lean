/-
  A part of the proof that the law FnExactSameAdjustments holds (abstract machine, walks, or the join). No conditions.
-/
import Derived.Test.YtdghdngpeidmnaaAmHeap2
/-! The compiler from the loaded code to the abstract machine's code. -/
namespace Go.Am

/-- A constant that stands in one cell. -/
def cell1 : Value → Option AV
  | .bool b => some (.b b)
  | .int k n => some (.i k n)
  | .string s => some (.s s)
  | .slice none 0 0 => some .nl
  | _ => none

def cells1 : List Value → Option (List AV)
  | [] => some []
  | v :: r => match cell1 v, cells1 r with
    | some x, some xs => some (x :: xs)
    | _, _ => none

/-- A constant. -/
def cval : Value → Option AV
  | .agg cs => (cells1 cs.toList).map .agg
  | v => cell1 v

def copd : Operand → Option AO
  | .tmp t => some (.t t)
  | .const v => (cval v).map .c
  | .func f => some (.c (.fn f []))
  | .global _ => none

def copds : List Operand → Option (List AO)
  | [] => some []
  | v :: r => match copd v, copds r with
    | some x, some xs => some (x :: xs)
    | _, _ => none

def copdo : Option Operand → Option (Option AO)
  | none => some none
  | some x => (copd x).map some

variable (P : Program) (rw : Nat → Bool) (rv : Bool)

/-- A type's size and whether it is a struct or an array. -/
def tyOf (t : TypeId) : Option (Bool × Nat) :=
  match P.underlying t, P.info? t with
  | some (.struct _), some i => some (true, i.size)
  | some (.array _ _), some i => some (true, i.size)
  | some _, some i => some (false, i.size)
  | _, _ => none

/-- How a variable of this type is read. -/
def ldOf (t : TypeId) : Option (Option Nat) :=
  match tyOf P t with
  | some (true, s) => some (some s)
  | some (false, 1) => some none
  | _ => none

def zeroOf (t : TypeId) : Option AV :=
  match P.info? t with
  | some i => match i.zero with
    | some z => match cval z with
      | some x => if x.cells.length = i.size ∧ z.cells.size = i.size ∧ 0 < i.size then some x else none
      | none => none
    | none => none
  | none => none

def partsS (fs : Array Field) : List (Nat × Operand) → Option (List (Nat × Nat × AO))
  | [] => some []
  | (i, x) :: r => match fs[i]?, copd x, partsS fs r with
    | some f, some o, some l => match tyOf P f.type with
      | some (_, s) => some ((f.offset, s, o) :: l)
      | none => none
    | _, _, _ => none

def partsA (s : Nat) : List (Nat × Operand) → Option (List (Nat × Nat × AO))
  | [] => some []
  | (i, x) :: r => match copd x, partsA s r with
    | some o, some l => some ((i * s, s, o) :: l)
    | _, _ => none

def partsL : List (Nat × Operand) → Option (List (Nat × AO))
  | [] => some []
  | (i, x) :: r => match copd x, partsL r with
    | some o, some l => some ((i, o) :: l)
    | _, _ => none

/-- A type whose values are compared by their one cell. -/
def eqType (t : TypeId) : Bool :=
  match P.underlying t with
  | some (.int _) => true
  | some .string => true
  | _ => false

def isBoolT (t : TypeId) : Bool :=
  match P.underlying t with
  | some .bool => true
  | _ => false

/-- The operation. -/
def cop1 (op : Op) : Option AOp :=
  match op with
  | .move x => (copd x).map .mv
  | .assign x => (copd x).map .mv
  | .pick c a b => match copd c, copd a, copd b with
    | some c, some a, some b => some (.pick c a b)
    | _, _, _ => none
  | .alloc t => (zeroOf P t).map .new
  | .box _ x => (copd x).map .box
  | .build t ps => match P.underlying t, zeroOf P t with
    | some (.struct fs), some z => if fs.toList.all (fun f => (tyOf P f.type).isSome) then (partsS P fs ps.toList).map (.bld z.cells) else none
    | some (.array _ e), some z => match tyOf P e with
      | some (_, s) => (partsA s ps.toList).map (.bld z.cells)
      | none => none
    | _, _ => none
  | .buildSlice t n ps => match P.underlying t with
    | some (.slice e) => match zeroOf P e, P.info? e with
      | some z, some i => if n * i.size ≤ 2 ^ 24 then (partsL ps.toList).map (.bsl z n) else none
      | _, _ => none
    | _ => none
  | .load t a => match ldOf P t, copd a with
    | some s, some a => some (.ld s a)
    | _, _ => none
  | .store t a v => match ldOf P t, copd a, copd v with
    | some s, some a, some v => some (.st s a v)
    | _, _, _ => none
  | .nilCheck x => (copd x).map .nck
  | .binOp op t x y _ => match copd x, copd y with
    | some x, some y =>
      if isBoolT P t then match op with
        | .eql => some (.beq false x y)
        | .neq => some (.beq true x y)
        | _ => none
      else if eqType P t then some (.bin op x y) else none
    | _, _ => none
  | .unOp .not _ x => (copd x).map .not
  | .unOp .neg _ x => (copd x).map .neg
  | .convert s d x => match P.underlying s, P.underlying d with
    | some (.int _), some (.int k) => (copd x).map (.cvt k)
    | _, _ => none
  | .extract x i => (copd x).map (.ext i)
  | .makeFunc (.func f) first caps => if first.size = 0 then (copds caps.toList).map (.mkf f) else none
  | .makeSlice t l c => match P.underlying t with
    | some (.slice e) => match zeroOf P e, P.info? e, copd l, copd c with
      | some z, some i, some l, some c => some (.mks z i.bytes l c)
      | _, _, _, _ => none
    | _ => none
  | .slice t x lo hi none => match P.underlying t with
    | some (.slice e) => match tyOf P e, copd x, copdo lo, copdo hi with
      | some (_, s), some x, some lo, some hi => some (.slc s x lo hi)
      | _, _, _, _ => none
    | _ => none
  | .fieldAddr t x f => match P.underlying t with
    | some (.struct fs) => match fs[f]?, copd x with
      | some f, some x => match tyOf P f.type with
        | some (_, s) => if s = 0 then none else some (.fad f.offset x)
        | none => none
      | _, _ => none
    | _ => none
  | .field t x f => match P.underlying t with
    | some (.struct fs) => match fs[f]?, copd x with
      | some f, some x => (ldOf P f.type).map fun s => .fld s f.offset x
      | _, _ => none
    | _ => none
  | .indexAddr t x i => match P.underlying t, copd x, copd i with
    | some (.slice e), some x, some i => match tyOf P e with
      | some (_, s) => some (.iad s x i)
      | none => none
    | some (.array n e), some x, some i => match tyOf P e with
      | some (_, s) => some (.aad n s x i)
      | none => none
    | _, _, _ => none
  | .index t x i => match P.underlying t, copd x, copd i with
    | some .string, some x, some i => some (.sidx x i)
    | _, _, _ => none
  | .call c => match c.callee with
    | .builtin .len => match c.args.toList, c.argTypes.toList with
      | [x], [t] => match P.underlying t with
        | some (.slice _) => (copd x).map .len
        | some .string => (copd x).map .slen
        | _ => none
      | _, _ => none
    | .builtin .append => match c.args.toList, c.argTypes.toList with
      | [x, y], [t, u] => match P.underlying t, P.underlying u with
        | some (.slice e), some (.slice _) => match zeroOf P e, P.info? e, copd x, copd y with
          | some _, some i, some x, some y => some (.app i.size i.bytes x y)
          | _, _, _, _ => none
        | _, _ => none
      | _, _ => none
    | .value (.func f) => (copds c.args.toList).map (.call (rw f) f)
    | .value (.tmp t) => (copds c.args.toList).map (.callv rv t)
    | _ => none
  | _ => none

def dstOk (N : Nat) : Option Nat → Bool
  | some d => decide (d < N)
  | none => true

/-- One operation of a region. -/
def cop (N : Nat) (ops : Array Oper) (o : Oper) : Option AI :=
  match cop1 P rw rv o.op with
  | none => none
  | some op =>
    if dstOk N o.dst then
      match o.guard with
      | none => some ⟨o.dst, op, none, []⟩
      | some (j, b) => match (ops[j]?).bind (·.dst) with
        | some s => some ⟨o.dst, op, some (s, b), []⟩
        | none => none
    else none

def cops (N : Nat) (ops : Array Oper) : List Oper → Option (List AI)
  | [] => some []
  | o :: r => match cop P rw rv N ops o, cops N ops r with
    | some i, some l => some (i :: l)
    | _, _ => none

end Go.Am
