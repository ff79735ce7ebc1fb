/-
  A part of the proof that the law FnExactSameAdjustments holds (abstract machine, walks, or the join). No conditions.
-/
import Derived.Below
import Derived.Orders
import Derived.Laws.AppendOwn
import Derived.Laws.MakeOwn
import Derived.Laws.OwnMore
import Derived.Deep.LoopGhost
import Derived.KernelRfl
/-! The abstract machine: values, state, operations, compiled code. -/
namespace Go.Am

/-- Abstract values. `sl` is an immutable slice with its elements, `rf` a slice into an own block, `pr` an address inside an immutable element, `ad` an address inside an own block. -/
inductive AV where
  | top
  | b (x : Bool)
  | i (k : IntKind) (n : Int)
  | s (x : ByteArray)
  | agg (cs : List AV)
  | tup (vs : List AV)
  | nl
  | sl (t : Option Nat) (xs : List AV)
  | rf (t s n : Nat)
  | pr (e : AV) (o : Nat)
  | ad (t i o : Nat)
  | fn (f : Nat) (caps : List AV)
  deriving Inhabited

/-- The cells of a value as memory holds them. -/
def AV.cells : AV → List AV
  | .agg cs => cs
  | x => [x]

/-- An element with new cells. -/
def AV.remake (e : AV) (cs : List AV) : AV :=
  match e with
  | .agg _ => .agg cs
  | _ => cs.headD .top

/-- An own block: how many cells an element has, and the elements. -/
abbrev Blk := Nat × List AV

abbrev Heap := Nat → Option Blk

def Heap.upd (H : Heap) (t : Nat) (b : Blk) : Heap := fun u => if u = t then some b else H u
def Heap.off (H : Heap) (t : Nat) : Heap := fun u => if u = t then none else H u

abbrev Fr := Nat → AV

def Fr.set (fr : Fr) (d : Nat) (v : AV) : Fr := fun u => if u = d then v else fr u
def Fr.put (fr : Fr) (d : Option Nat) (v : AV) : Fr :=
  match d with
  | some d => fr.set d v
  | none => fr

structure St where
  fr : Fr
  H : Heap
  n : Nat

/-- Operands. -/
inductive AO where
  | t (n : Nat)
  | c (v : AV)

def AO.ev (fr : Fr) : AO → AV
  | .t n => fr n
  | .c v => v

/-- Compiled operations. -/
inductive AOp where
  | mv (x : AO)
  | pick (c a b : AO)
  | new (z : AV)
  | box (x : AO)
  | bld (z : List AV) (ps : List (Nat × Nat × AO))
  | bsl (z : AV) (len : Nat) (ps : List (Nat × AO))
  | ld (s : Option Nat) (a : AO)
  | st (s : Option Nat) (a v : AO)
  | nck (x : AO)
  | fad (o : Nat) (a : AO)
  | fld (s : Option Nat) (o : Nat) (x : AO)
  | iad (sz : Nat) (x i : AO)
  | aad (n sz : Nat) (x i : AO)
  | sidx (x i : AO)
  | bin (op : BinOp) (x y : AO)
  | beq (ne : Bool) (x y : AO)
  | not (x : AO)
  | neg (x : AO)
  | cvt (k : IntKind) (x : AO)
  | ext (i : Nat) (x : AO)
  | mkf (f : Nat) (caps : List AO)
  | mks (z : AV) (bytes : Nat) (len cap : AO)
  | slc (sz : Nat) (x : AO) (lo hi : Option AO)
  | len (x : AO)
  | slen (x : AO)
  | app (sz bytes : Nat) (x y : AO)
  | call (raw : Bool) (f : Nat) (args : List AO)
  | callv (raw : Bool) (f : Nat) (args : List AO)

/-- One instruction: destination, operation, guard (slot, wanted), and the slots of the addresses that other loads of the region may read before or behind it. -/
structure AI where
  d : Option Nat
  op : AOp
  g : Option (Nat × Bool)
  fl : List Nat

/-- Compiled code. -/
inductive AC where
  | skip
  | ops (l : List AI)
  | opsd (l : List (Nat × AI))
  | seq (a b : AC)
  | cond (c : AO) (x y : AC)
  | block (id : Nat) (x : AC)
  | loop (x : AC)
  | exit (id : Nat)
  | ret

/-- What an address leads to: an element and the cell in it. -/
def look (H : Heap) : AV → Option (AV × Nat)
  | .pr e o => some (e, o)
  | .ad t i o => match H t with
    | some (_, es) => match es[i]? with
      | some e => some (e, o)
      | none => none
    | none => none
  | _ => none

/-- A part of some cells: one cell, or an aggregate of `k` cells. -/
def partOf (s : Option Nat) (cs : List AV) (o : Nat) : Option AV :=
  match s with
  | none => cs[o]?
  | some k => if o + k ≤ cs.length then some (.agg ((cs.drop o).take k)) else none

/-- May this value stand in one cell? -/
def cellOk : AV → Bool
  | .top | .agg _ | .tup _ => false
  | _ => true

/-- The elements of a slice value. -/
def elems (H : Heap) : AV → Option (List AV)
  | .nl => some []
  | .sl _ xs => some xs
  | .rf t s n => match H t with
    | some (_, es) => if s + n ≤ es.length then some ((es.drop s).take n) else none
    | none => none
  | _ => none

def fillOne (cs : List AV) (o : Nat) (vs : List AV) : List AV := cs.take o ++ vs ++ cs.drop (o + vs.length)

def AV.isTop : AV → Bool
  | .top => true
  | _ => false

/-- The cells of a struct or an array, part by part. -/
def fillS (fr : Fr) : List AV → List (Nat × Nat × AO) → Option (List AV)
  | cs, [] => some cs
  | cs, (o, s, x) :: r =>
    if (x.ev fr).isTop = false ∧ (x.ev fr).cells.length = s ∧ o + s ≤ cs.length then fillS fr (fillOne cs o (x.ev fr).cells) r else none

/-- The elements of a slice literal. -/
def fillL (fr : Fr) (sz : Nat) : List AV → List (Nat × AO) → Option (List AV)
  | es, [] => some es
  | es, (i, x) :: r =>
    if (x.ev fr).isTop = false ∧ (x.ev fr).cells.length = sz ∧ i < es.length then fillL fr sz (es.set i (x.ev fr)) r else none

def binop (op : BinOp) (x y : AV) : Option AV :=
  match x, y with
  | .i k a, .i k' b =>
    match op with
    | .add => if k = k' then some (.i k (k.wrap (a + b))) else none
    | .sub => if k = k' then some (.i k (k.wrap (a - b))) else none
    | .mul => if k = k' then some (.i k (k.wrap (a * b))) else none
    | .quo => if k = k' ∧ b ≠ 0 then some (.i k (k.wrap (a.tdiv b))) else none
    | .rem => if k = k' ∧ b ≠ 0 then some (.i k (a.tmod b)) else none
    | .and => if k = k' then some (.i k (k.wrap (BitVec.ofInt k.bits a &&& BitVec.ofInt k.bits b).toNat)) else none
    | .or => if k = k' then some (.i k (k.wrap (BitVec.ofInt k.bits a ||| BitVec.ofInt k.bits b).toNat)) else none
    | .xor => if k = k' then some (.i k (k.wrap (BitVec.ofInt k.bits a ^^^ BitVec.ofInt k.bits b).toNat)) else none
    | .shr => if b < 0 then none else some (.i k (a.fdiv (2 ^ (min b.toNat k.bits))))
    | .eql => if k = k' then some (.b (a == b)) else none
    | .neq => if k = k' then some (.b (a != b)) else none
    | .lss => if k = k' then some (.b (decide (a < b))) else none
    | .leq => if k = k' then some (.b (decide (a ≤ b))) else none
    | .gtr => if k = k' then some (.b (decide (a > b))) else none
    | .geq => if k = k' then some (.b (decide (a ≥ b))) else none
    | _ => none
  | .s a, .s c =>
    match op with
    | .eql => some (.b (a.toList == c.toList))
    | .neq => some (.b (!(a.toList == c.toList)))
    | _ => none
  | _, _ => none

/-- A slice expression's bound: a number within 0 and m. -/
def bound (m : Nat) (dflt : Nat) : Option AV → Option Nat
  | none => some dflt
  | some (.i _ n) => if 0 ≤ n ∧ n ≤ m then some n.toNat else none
  | some _ => none

def maxB : Nat := 140737488355328

/-- The operations that are no calls: the value, and the own heap behind it; `tok` is the token of what is made. -/
def AOp.run (fr : Fr) (H : Heap) (tok : Nat) : AOp → Option (AV × Heap)
  | .mv x => some (x.ev fr, H)
  | .pick c a b => match c.ev fr with
    | .b x => some (if x then a.ev fr else b.ev fr, H)
    | _ => none
  | .new z => some (.ad tok 0 0, H.upd tok (z.cells.length, [z]))
  | .box x => match x.ev fr with
    | .top => none
    | v => some (.ad tok 0 0, H.upd tok (v.cells.length, [v]))
  | .bld z ps => (fillS fr z ps).map fun cs => (.agg cs, H)
  | .bsl z ln ps => (fillL fr z.cells.length (List.replicate ln z) ps).map fun es => (.rf tok 0 ln, H.upd tok (z.cells.length, es))
  | .ld s a => match look H (a.ev fr) with
    | some (e, o) => (partOf s e.cells o).map fun v => (v, H)
    | none => none
  | .st s a v =>
    match a.ev fr with
    | .ad t i o => match H t with
      | some (sz, es) => match es[i]? with
        | some e =>
          let vs := (v.ev fr).cells
          if vs.length = s.getD 1 ∧ o + vs.length ≤ e.cells.length ∧ vs.all cellOk then
            some (.top, H.upd t (sz, es.set i (e.remake (fillOne e.cells o vs))))
          else none
        | none => none
      | none => none
    | _ => none
  | .nck x => match x.ev fr with
    | .pr e o => some (.pr e o, H)
    | .ad t i o => some (.ad t i o, H)
    | _ => none
  | .fad o a => match a.ev fr with
    | .pr e o' => some (.pr e (o' + o), H)
    | .ad t i o' => some (.ad t i (o' + o), H)
    | _ => none
  | .fld s o x => match x.ev fr with
    | .agg cs => (partOf s cs o).map fun v => (v, H)
    | _ => none
  | .iad sz x i => match i.ev fr with
    | .i _ n => match x.ev fr with
      | .sl _ xs => if 0 ≤ n then match xs[n.toNat]? with
          | some e => if e.cells.length = sz then some (.pr e 0, H) else none
          | none => none
        else none
      | .rf t s m => match H t with
        | some (_, es) => if 0 ≤ n ∧ n < m then match es[s + n.toNat]? with
            | some e => if e.cells.length = sz then some (.ad t (s + n.toNat) 0, H) else none
            | none => none
          else none
        | none => none
      | _ => none
    | _ => none
  | .aad n sz x i => match i.ev fr with
    | .i _ j => if 0 ≤ j ∧ j < n then match x.ev fr with
        | .pr e o => some (.pr e (o + j.toNat * sz), H)
        | .ad t k o => some (.ad t k (o + j.toNat * sz), H)
        | _ => none
      else none
    | _ => none
  | .sidx x i => match i.ev fr, x.ev fr with
    | .i _ n, .s s => if 0 ≤ n then match s[n.toNat]? with
        | some c => some (.i .u8 c.toNat, H)
        | none => none
      else none
    | _, _ => none
  | .bin op x y => (binop op (x.ev fr) (y.ev fr)).map fun v => (v, H)
  | .beq ne x y => match x.ev fr, y.ev fr with
    | .b p, .b q => some (.b (if ne then !(p == q) else p == q), H)
    | _, _ => none
  | .not x => match x.ev fr with
    | .b x => some (.b (!x), H)
    | _ => none
  | .neg x => match x.ev fr with
    | .i k n => some (.i k (k.wrap (0 - n)), H)
    | _ => none
  | .cvt k x => match x.ev fr with
    | .i _ n => some (.i k (k.wrap n), H)
    | _ => none
  | .ext i x => match x.ev fr with
    | .tup vs => match vs[i]? with
      | some v => some (v, H)
      | none => none
    | _ => none
  | .mkf f caps => some (.fn f (caps.map (·.ev fr)), H)
  | .mks z bytes ln cp => match ln.ev fr, cp.ev fr with
    | .i _ l, .i _ c => if 0 ≤ l ∧ l ≤ c ∧ c ≤ 9223372036854775807 ∧ c * bytes ≤ maxB then some (.rf tok 0 l.toNat, H.upd tok (z.cells.length, List.replicate l.toNat z)) else none
    | _, _ => none
  | .slc sz x lo hi => match x.ev fr with
    | .nl => match bound 0 0 (hi.map (·.ev fr)) with
      | some h => match bound h 0 (lo.map (·.ev fr)) with
        | some _ => some (.nl, H)
        | none => none
      | none => none
    | .sl t xs => match bound xs.length xs.length (hi.map (·.ev fr)) with
      | some h => match bound h 0 (lo.map (·.ev fr)) with
        | some l => if ((xs.take h).drop l).all (fun e => e.cells.length == sz) then some (.sl t ((xs.take h).drop l), H) else none
        | none => none
      | none => none
    | .rf t s n => match H t with
      | some (z, es) => if s + n ≤ es.length ∧ z = sz then match bound n n (hi.map (·.ev fr)) with
          | some h => match bound h 0 (lo.map (·.ev fr)) with
            | some l => some (.rf t (s + l) (h - l), H)
            | none => none
          | none => none
        else none
      | none => none
    | _ => none
  | .len x => match x.ev fr with
    | .nl => some (.i .i64 0, H)
    | .sl _ xs => some (.i .i64 xs.length, H)
    | .rf _ _ n => some (.i .i64 n, H)
    | _ => none
  | .slen x => match x.ev fr with
    | .s x => some (.i .i64 x.size, H)
    | _ => none
  | .app sz bytes x y => match elems H (y.ev fr) with
    | none => none
    | some ys =>
      if ys.all (fun y => y.cells.length == sz && y.cells.all cellOk) then
        match x.ev fr with
        | .nl => if ys.isEmpty then some (.nl, H)
          else if ys.length ≤ 9223372036854775807 ∧ ys.length * bytes ≤ maxB then some (.rf tok 0 ys.length, H.upd tok (sz, ys)) else none
        | .rf t 0 n => match H t with
          | some (z, es) => if es.length = n ∧ n + ys.length ≤ 9223372036854775807 ∧ (n + ys.length) * bytes ≤ maxB ∧ z = sz then
              if ys.isEmpty then some (.rf t 0 n, H) else some (.rf tok 0 (n + ys.length), (H.off t).upd tok (sz, es ++ ys))
            else none
          | none => none
        | _ => none
      else none
  | .call _ _ _ => none
  | .callv _ _ _ => none

end Go.Am
