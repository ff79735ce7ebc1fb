/-
  A part of the proof that the law FnExactAbsoluteOf holds for every input: the abstract machine. No conditions.
-/
import Derived.Below
import Derived.Orders
import Derived.Laws.AppendOwn
import Derived.Laws.MakeOwn
import Derived.Laws.OwnMore
import Derived.Deep.LoopGhost
import Derived.KernelRfl
import Derived.Deep.MidRow
import Derived.WalkKit
import Derived.IntWalk
set_option linter.unusedVariables false
set_option linter.unusedSimpArgs false
/-! The abstract machine: values, state, operations, compiled code. -/
namespace Go.Am

/-- Abstract values. `sl` is an immutable slice with its elements, `rf` a slice into an own block, `pr` an address inside an immutable element, `ad` an address inside an own block. -/
inductive AV where
  | top
  | b (x : Bool)
  | i (k : IntKind) (n : Int)
  | s (x : ByteArray)
  | agg (cs : List AV)
  | tup (vs : List AV)
  | nl
  | sl (t : Option Nat) (xs : List AV)
  | rf (t s n : Nat)
  | pr (e : AV) (o : Nat)
  | ad (t i o : Nat)
  | fn (f : Nat) (caps : List AV)
  deriving Inhabited

/-- The cells of a value as memory holds them. -/
def AV.cells : AV → List AV
  | .agg cs => cs
  | x => [x]

/-- An element with new cells. -/
def AV.remake (e : AV) (cs : List AV) : AV :=
  match e with
  | .agg _ => .agg cs
  | _ => cs.headD .top

/-- An own block: how many cells an element has, and the elements. -/
abbrev Blk := Nat × List AV

abbrev Heap := Nat → Option Blk

def Heap.upd (H : Heap) (t : Nat) (b : Blk) : Heap := fun u => if u = t then some b else H u
def Heap.off (H : Heap) (t : Nat) : Heap := fun u => if u = t then none else H u

abbrev Fr := Nat → AV

def Fr.set (fr : Fr) (d : Nat) (v : AV) : Fr := fun u => if u = d then v else fr u
def Fr.put (fr : Fr) (d : Option Nat) (v : AV) : Fr :=
  match d with
  | some d => fr.set d v
  | none => fr

structure St where
  fr : Fr
  H : Heap
  n : Nat

/-- Operands. -/
inductive AO where
  | t (n : Nat)
  | c (v : AV)

def AO.ev (fr : Fr) : AO → AV
  | .t n => fr n
  | .c v => v

/-- Compiled operations. -/
inductive AOp where
  | mv (x : AO)
  | pick (c a b : AO)
  | new (z : AV)
  | box (x : AO)
  | bld (z : List AV) (ps : List (Nat × Nat × AO))
  | bsl (z : AV) (len : Nat) (ps : List (Nat × AO))
  | ld (s : Option Nat) (a : AO)
  | st (s : Option Nat) (a v : AO)
  | nck (x : AO)
  | fad (o : Nat) (a : AO)
  | fld (s : Option Nat) (o : Nat) (x : AO)
  | iad (sz : Nat) (x i : AO)
  | aad (n sz : Nat) (x i : AO)
  | sidx (x i : AO)
  | bin (op : BinOp) (x y : AO)
  | beq (ne : Bool) (x y : AO)
  | not (x : AO)
  | neg (x : AO)
  | cvt (k : IntKind) (x : AO)
  | ext (i : Nat) (x : AO)
  | mkf (f : Nat) (caps : List AO)
  | mks (z : AV) (bytes : Nat) (len cap : AO)
  | slc (sz : Nat) (x : AO) (lo hi : Option AO)
  | len (x : AO)
  | slen (x : AO)
  | app (sz bytes : Nat) (x y : AO)
  | call (raw : Bool) (f : Nat) (args : List AO)
  | callv (raw : Bool) (f : Nat) (args : List AO)

/-- One instruction: destination, operation, guard (slot, wanted), and the slots of the addresses that other loads of the region may read before or behind it. -/
structure AI where
  d : Option Nat
  op : AOp
  g : Option (Nat × Bool)
  fl : List Nat

/-- Compiled code. -/
inductive AC where
  | skip
  | ops (l : List AI)
  | opsd (l : List (Nat × AI))
  | seq (a b : AC)
  | cond (c : AO) (x y : AC)
  | block (id : Nat) (x : AC)
  | loop (x : AC)
  | exit (id : Nat)
  | ret

/-- What an address leads to: an element and the cell in it. -/
def look (H : Heap) : AV → Option (AV × Nat)
  | .pr e o => some (e, o)
  | .ad t i o => match H t with
    | some (_, es) => match es[i]? with
      | some e => some (e, o)
      | none => none
    | none => none
  | _ => none

/-- A part of some cells: one cell, or an aggregate of `k` cells. -/
def partOf (s : Option Nat) (cs : List AV) (o : Nat) : Option AV :=
  match s with
  | none => cs[o]?
  | some k => if o + k ≤ cs.length then some (.agg ((cs.drop o).take k)) else none

/-- May this value stand in one cell? -/
def cellOk : AV → Bool
  | .top | .agg _ | .tup _ => false
  | _ => true

/-- The elements of a slice value. -/
def elems (H : Heap) : AV → Option (List AV)
  | .nl => some []
  | .sl _ xs => some xs
  | .rf t s n => match H t with
    | some (_, es) => if s + n ≤ es.length then some ((es.drop s).take n) else none
    | none => none
  | _ => none

def fillOne (cs : List AV) (o : Nat) (vs : List AV) : List AV := cs.take o ++ vs ++ cs.drop (o + vs.length)

def AV.isTop : AV → Bool
  | .top => true
  | _ => false

/-- The cells of a struct or an array, part by part. -/
def fillS (fr : Fr) : List AV → List (Nat × Nat × AO) → Option (List AV)
  | cs, [] => some cs
  | cs, (o, s, x) :: r =>
    if (x.ev fr).isTop = false ∧ (x.ev fr).cells.length = s ∧ o + s ≤ cs.length then fillS fr (fillOne cs o (x.ev fr).cells) r else none

/-- The elements of a slice literal. -/
def fillL (fr : Fr) (sz : Nat) : List AV → List (Nat × AO) → Option (List AV)
  | es, [] => some es
  | es, (i, x) :: r =>
    if (x.ev fr).isTop = false ∧ (x.ev fr).cells.length = sz ∧ i < es.length then fillL fr sz (es.set i (x.ev fr)) r else none

def binop (op : BinOp) (x y : AV) : Option AV :=
  match x, y with
  | .i k a, .i k' b =>
    match op with
    | .add => if k = k' then some (.i k (k.wrap (a + b))) else none
    | .sub => if k = k' then some (.i k (k.wrap (a - b))) else none
    | .mul => if k = k' then some (.i k (k.wrap (a * b))) else none
    | .quo => if k = k' ∧ b ≠ 0 then some (.i k (k.wrap (a.tdiv b))) else none
    | .rem => if k = k' ∧ b ≠ 0 then some (.i k (a.tmod b)) else none
    | .and => if k = k' then some (.i k (k.wrap (BitVec.ofInt k.bits a &&& BitVec.ofInt k.bits b).toNat)) else none
    | .or => if k = k' then some (.i k (k.wrap (BitVec.ofInt k.bits a ||| BitVec.ofInt k.bits b).toNat)) else none
    | .xor => if k = k' then some (.i k (k.wrap (BitVec.ofInt k.bits a ^^^ BitVec.ofInt k.bits b).toNat)) else none
    | .shr => if b < 0 then none else some (.i k (a.fdiv (2 ^ (min b.toNat k.bits))))
    | .eql => if k = k' then some (.b (a == b)) else none
    | .neq => if k = k' then some (.b (a != b)) else none
    | .lss => if k = k' then some (.b (decide (a < b))) else none
    | .leq => if k = k' then some (.b (decide (a ≤ b))) else none
    | .gtr => if k = k' then some (.b (decide (a > b))) else none
    | .geq => if k = k' then some (.b (decide (a ≥ b))) else none
    | _ => none
  | .s a, .s c =>
    match op with
    | .eql => some (.b (a.toList == c.toList))
    | .neq => some (.b (!(a.toList == c.toList)))
    | _ => none
  | _, _ => none

/-- A slice expression's bound: a number within 0 and m. -/
def bound (m : Nat) (dflt : Nat) : Option AV → Option Nat
  | none => some dflt
  | some (.i _ n) => if 0 ≤ n ∧ n ≤ m then some n.toNat else none
  | some _ => none

def maxB : Nat := 140737488355328

/-- The operations that are no calls: the value, and the own heap behind it; `tok` is the token of what is made. -/
def AOp.run (fr : Fr) (H : Heap) (tok : Nat) : AOp → Option (AV × Heap)
  | .mv x => some (x.ev fr, H)
  | .pick c a b => match c.ev fr with
    | .b x => some (if x then a.ev fr else b.ev fr, H)
    | _ => none
  | .new z => some (.ad tok 0 0, H.upd tok (z.cells.length, [z]))
  | .box x => match x.ev fr with
    | .top => none
    | v => some (.ad tok 0 0, H.upd tok (v.cells.length, [v]))
  | .bld z ps => (fillS fr z ps).map fun cs => (.agg cs, H)
  | .bsl z ln ps => (fillL fr z.cells.length (List.replicate ln z) ps).map fun es => (.rf tok 0 ln, H.upd tok (z.cells.length, es))
  | .ld s a => match look H (a.ev fr) with
    | some (e, o) => (partOf s e.cells o).map fun v => (v, H)
    | none => none
  | .st s a v =>
    match a.ev fr with
    | .ad t i o => match H t with
      | some (sz, es) => match es[i]? with
        | some e =>
          let vs := (v.ev fr).cells
          if vs.length = s.getD 1 ∧ o + vs.length ≤ e.cells.length ∧ vs.all cellOk then
            some (.top, H.upd t (sz, es.set i (e.remake (fillOne e.cells o vs))))
          else none
        | none => none
      | none => none
    | _ => none
  | .nck x => match x.ev fr with
    | .pr e o => some (.pr e o, H)
    | .ad t i o => some (.ad t i o, H)
    | _ => none
  | .fad o a => match a.ev fr with
    | .pr e o' => some (.pr e (o' + o), H)
    | .ad t i o' => some (.ad t i (o' + o), H)
    | _ => none
  | .fld s o x => match x.ev fr with
    | .agg cs => (partOf s cs o).map fun v => (v, H)
    | _ => none
  | .iad sz x i => match i.ev fr with
    | .i _ n => match x.ev fr with
      | .sl _ xs => if 0 ≤ n then match xs[n.toNat]? with
          | some e => if e.cells.length = sz then some (.pr e 0, H) else none
          | none => none
        else none
      | .rf t s m => match H t with
        | some (_, es) => if 0 ≤ n ∧ n < m then match es[s + n.toNat]? with
            | some e => if e.cells.length = sz then some (.ad t (s + n.toNat) 0, H) else none
            | none => none
          else none
        | none => none
      | _ => none
    | _ => none
  | .aad n sz x i => match i.ev fr with
    | .i _ j => if 0 ≤ j ∧ j < n then match x.ev fr with
        | .pr e o => some (.pr e (o + j.toNat * sz), H)
        | .ad t k o => some (.ad t k (o + j.toNat * sz), H)
        | _ => none
      else none
    | _ => none
  | .sidx x i => match i.ev fr, x.ev fr with
    | .i _ n, .s s => if 0 ≤ n then match s[n.toNat]? with
        | some c => some (.i .u8 c.toNat, H)
        | none => none
      else none
    | _, _ => none
  | .bin op x y => (binop op (x.ev fr) (y.ev fr)).map fun v => (v, H)
  | .beq ne x y => match x.ev fr, y.ev fr with
    | .b p, .b q => some (.b (if ne then !(p == q) else p == q), H)
    | _, _ => none
  | .not x => match x.ev fr with
    | .b x => some (.b (!x), H)
    | _ => none
  | .neg x => match x.ev fr with
    | .i k n => some (.i k (k.wrap (0 - n)), H)
    | _ => none
  | .cvt k x => match x.ev fr with
    | .i _ n => some (.i k (k.wrap n), H)
    | _ => none
  | .ext i x => match x.ev fr with
    | .tup vs => match vs[i]? with
      | some v => some (v, H)
      | none => none
    | _ => none
  | .mkf f caps => some (.fn f (caps.map (·.ev fr)), H)
  | .mks z bytes ln cp => match ln.ev fr, cp.ev fr with
    | .i _ l, .i _ c => if 0 ≤ l ∧ l ≤ c ∧ c ≤ 9223372036854775807 ∧ c * bytes ≤ maxB then some (.rf tok 0 l.toNat, H.upd tok (z.cells.length, List.replicate l.toNat z)) else none
    | _, _ => none
  | .slc sz x lo hi => match x.ev fr with
    | .nl => match bound 0 0 (hi.map (·.ev fr)) with
      | some h => match bound h 0 (lo.map (·.ev fr)) with
        | some _ => some (.nl, H)
        | none => none
      | none => none
    | .sl t xs => match bound xs.length xs.length (hi.map (·.ev fr)) with
      | some h => match bound h 0 (lo.map (·.ev fr)) with
        | some l => if ((xs.take h).drop l).all (fun e => e.cells.length == sz) then some (.sl t ((xs.take h).drop l), H) else none
        | none => none
      | none => none
    | .rf t s n => match H t with
      | some (z, es) => if s + n ≤ es.length ∧ z = sz ∧ sz ≠ 0 then match bound n n (hi.map (·.ev fr)) with
          | some h => match bound h 0 (lo.map (·.ev fr)) with
            | some l => some (.rf t (s + l) (h - l), H)
            | none => none
          | none => none
        else none
      | none => none
    | _ => none
  | .len x => match x.ev fr with
    | .nl => some (.i .i64 0, H)
    | .sl _ xs => some (.i .i64 xs.length, H)
    | .rf _ _ n => some (.i .i64 n, H)
    | _ => none
  | .slen x => match x.ev fr with
    | .s x => some (.i .i64 x.size, H)
    | _ => none
  | .app sz bytes x y => match elems H (y.ev fr) with
    | none => none
    | some ys =>
      if ys.all (fun y => y.cells.length == sz && y.cells.all cellOk) then
        match x.ev fr with
        | .nl => if ys.isEmpty then some (.nl, H)
          else if ys.length ≤ 9223372036854775807 ∧ ys.length * bytes ≤ maxB then some (.rf tok 0 ys.length, H.upd tok (sz, ys)) else none
        | .rf t 0 n => match H t with
          | some (z, es) => if n ≤ es.length ∧ n + ys.length ≤ 9223372036854775807 ∧ (n + ys.length) * bytes ≤ maxB ∧ z = sz ∧ sz ≠ 0 then
              if ys.isEmpty then some (.rf t 0 n, H) else some (.rf tok 0 (n + ys.length), (H.off t).upd tok (sz, es.take n ++ ys))
            else none
          | none => none
        | _ => none
      else none
  | .call _ _ _ => none
  | .callv _ _ _ => none

end Go.Am
/-! The relation between machine values and abstract values, and between heaps. -/
namespace Go.Am

/-- Where a block lies that the call has made or was handed: its number, the cells of an element, the capacity; `dead`: an append has handed it on to a new token; `b`: the cell at which it begins; `full`: it is the whole block. -/
structure Pl where
  g : Nat
  sz : Nat
  cap : Nat
  dead : Bool
  b : Nat
  full : Bool

abbrev Bt := Nat → Option Pl

/-- The machine value stands for the abstract value. -/
inductive Rep (β : Bt) (ok : Nat → Prop) (w : World) : Value → AV → Prop
  | top (v : Value) : Rep β ok w v .top
  | b (x : Bool) : Rep β ok w (.bool x) (.b x)
  | i (k : IntKind) (m : Int) : Rep β ok w (.int k m) (.i k m)
  | s (x : ByteArray) : Rep β ok w (.string x) (.s x)
  | agg (vs : Array Value) (cs : List AV) (hl : vs.size = cs.length) (h : ∀ (j : Nat) (y : AV), cs[j]? = some y → Rep β ok w ((vs[j]?).getD undef) y) : Rep β ok w (.agg vs) (.agg cs)
  | tup (vs : Array Value) (cs : List AV) (hl : vs.size = cs.length) (h : ∀ (j : Nat) (y : AV), cs[j]? = some y → Rep β ok w ((vs[j]?).getD undef) y) : Rep β ok w (.tuple vs) (.tup cs)
  | nl : Rep β ok w (.slice none 0 0) .nl
  | sl0 (t : Option Nat) (a : Option Addr) (c : Nat) : Rep β ok w (.slice a 0 c) (.sl t [])
  | sl (g o c sz : Nat) (t : Option Nat) (xs : List AV) (cv : Nat → Nat → Value) (hc : xs.length ≤ c) (hg : ok g) (hlt : g < w.heap.size)
      (ht : ∀ k, t = some k → ∃ p, β k = some p ∧ p.g = g ∧ p.dead = false)
      (hs : ∀ (i : Nat) (x : AV), xs[i]? = some x → x.cells.length = sz)
      (hm : ∀ (i : Nat) (x : AV) (j : Nat), xs[i]? = some x → j < sz → w.cell? ⟨g, o + i * sz + j, none⟩ = some (cv i j))
      (hr : ∀ (i : Nat) (x : AV) (j : Nat) (y : AV), xs[i]? = some x → x.cells[j]? = some y → Rep β ok w (cv i j) y) : Rep β ok w (.slice (some ⟨g, o, none⟩) xs.length c) (.sl t xs)
  | rf (t s m : Nat) (a : Option Addr) (c : Nat) (p : Pl) (hp : β t = some p) (ha : (m ≠ 0 ∨ s = 0) → a = some ⟨p.g, p.b + s * p.sz, none⟩) (hc : m ≤ c) (h0 : p.full = true → s = 0 → c = p.cap) :
      Rep β ok w (.slice a m c) (.rf t s m)
  | pr (e : AV) (o g b : Nat) (cv : Nat → Value) (hg : ok g) (hlt : g < w.heap.size)
      (hm : ∀ j, j < e.cells.length → w.cell? ⟨g, b + j, none⟩ = some (cv j))
      (hr : ∀ (j : Nat) (y : AV), e.cells[j]? = some y → Rep β ok w (cv j) y) : Rep β ok w (.pointer (some ⟨g, b + o, none⟩)) (.pr e o)
  | ad (t i o : Nat) (p : Pl) (hp : β t = some p) : Rep β ok w (.pointer (some ⟨p.g, p.b + (i * p.sz + o), none⟩)) (.ad t i o)
  | fn (f : Nat) (caps : List AV) (vs : Array Value) (hl : vs.size = caps.length) (h : ∀ (j : Nat) (y : AV), caps[j]? = some y → Rep β ok w ((vs[j]?).getD undef) y) : Rep β ok w (.func (.func f) #[] vs) (.fn f caps)

/-- A block that is neither walled off nor own. -/
def okB (X : Nat → Prop) (β : Bt) (H : Heap) (g : Nat) : Prop := ¬ X g ∧ ∀ t es p, H t = some es → β t = some p → p.g ≠ g

/-- The relation of the heaps. -/
structure HSim (X : Nat → Prop) (β : Bt) (w : World) (H : Heap) (n : Nat) : Prop where
  lt : ∀ t p, β t = some p → t < n
  inj : ∀ t t' p p', β t = some p → β t' = some p' → p.g = p'.g → p.dead = false → p'.dead = false → t = t'
  blk : ∀ t p, β t = some p → ¬ X p.g ∧ ∃ cur e, w.heap[p.g]? = some (.cells cur e (0, 0)) ∧ (p.b + p.cap * p.sz ≤ cur.size ∧ (p.full = true → p.b = 0 ∧ cur.size = p.cap * p.sz)) ∧ p.cap ≤ maxLen
  dom : ∀ t es, H t = some es → ∃ p, β t = some p ∧ p.dead = false ∧ (p.full = true ∧ p.sz = es.1 ∨ es.1 = 0) ∧ es.2.length ≤ p.cap ∧
    ∀ (i : Nat) (x : AV), es.2[i]? = some x → x.cells.length = p.sz ∧ ∀ (j : Nat) (y : AV), x.cells[j]? = some y → ∃ v, w.cell? ⟨p.g, p.b + (i * p.sz + j), none⟩ = some v ∧ Rep β (okB X β H) w v y
  xlt : ∀ g, X g → g < w.heap.size

/-- One step of the tokens and the world, as what is there sees it. -/
structure Stp (β : Bt) (ok : Nat → Prop) (w : World) (β' : Bt) (ok' : Nat → Prop) (w' : World) : Prop where
  tok : ∀ t p, β t = some p → ∃ p', β' t = some p' ∧ p'.g = p.g ∧ p'.sz = p.sz ∧ p'.cap = p.cap ∧ p'.b = p.b ∧ p'.full = p.full
  tag : ∀ t p, β t = some p → p.dead = false → ok p.g → β' t = some p
  size : w.heap.size ≤ w'.heap.size
  okm : ∀ g, g < w.heap.size → ok g → ok' g
  cell : ∀ g o, g < w.heap.size → ok g → w'.cell? ⟨g, o, none⟩ = w.cell? ⟨g, o, none⟩

/-- A value stands for what it stood for, where blocks and tokens have been kept. -/
theorem Rep.stp {β β' : Bt} {ok ok' : Nat → Prop} {w w' : World} {v : Value} {x : AV} (h : Rep β ok w v x) (s : Stp β ok w β' ok' w') : Rep β' ok' w' v x := by
  induction h with
  | top v => exact .top v
  | b x => exact .b x
  | i k m => exact .i k m
  | s x => exact .s x
  | agg vs cs hl h ih => exact .agg vs cs hl fun j y hy => ih j y hy
  | tup vs cs hl h ih => exact .tup vs cs hl fun j y hy => ih j y hy
  | nl => exact .nl
  | sl0 t a c => exact .sl0 t a c
  | sl g o c sz t xs cv hc' hg hlt ht' hs hm hr ih =>
    refine .sl g o c sz t xs cv hc' (s.okm g hlt hg) (Nat.lt_of_lt_of_le hlt s.size) ?_ hs (fun i x j hx hj => (s.cell g _ hlt hg).trans (hm i x j hx hj)) ih
    intro k hk
    obtain ⟨p, hp, hpg, hd⟩ := ht' k hk
    exact ⟨p, s.tag k p hp hd (hpg ▸ hg), hpg, hd⟩
  | rf t st m a c p hp ha hc h0 =>
    obtain ⟨p', hp', h1, h2, h3, h4, h5⟩ := s.tok t p hp
    exact .rf t st m a c p' hp' (by rw [h1, h2, h4]; exact ha) hc (by rw [h3, h5]; exact h0)
  | pr e o g b cv hg hlt hm hr ih => exact .pr e o g b cv (s.okm g hlt hg) (Nat.lt_of_lt_of_le hlt s.size) (fun j hj => (s.cell g _ hlt hg).trans (hm j hj)) ih
  | ad t i o p hp =>
    obtain ⟨p', hp', h1, h2, h3, h4, h5⟩ := s.tok t p hp
    rw [← h1, ← h2, ← h4]
    exact .ad t i o p' hp'
  | fn f caps vs hl h ih => exact .fn f caps vs hl fun j y hy => ih j y hy

theorem Stp.refl (β : Bt) (ok : Nat → Prop) (w : World) : Stp β ok w β ok w :=
  ⟨fun _ p h => ⟨p, h, rfl, rfl, rfl, rfl, rfl⟩, fun _ _ h _ _ => h, Nat.le_refl _, fun _ _ h => h, fun _ _ _ _ => rfl⟩

end Go.Am
/-! How the relation of the heaps is carried over what an operation does to memory. -/
namespace Go.Am

/-- What a call began with. -/
structure Entry where
  X : Nat → Prop
  β : Bt
  H : Heap
  n : Nat
  w : World

def Entry.own (E : Entry) (g : Nat) : Prop := ∃ t es p, E.H t = some es ∧ E.β t = some p ∧ p.g = g

/-- What has become of the world since the call began. -/
structure Ctx (E : Entry) (β : Bt) (w : World) (H : Heap) (n : Nat) : Prop where
  size : E.w.heap.size ≤ w.heap.size
  os : w.os = E.w.os
  tape : w.tape = E.w.tape
  output : w.output = E.w.output
  le : E.n ≤ n
  tok : ∀ t p, E.β t = some p → ∃ p', β t = some p' ∧ p'.g = p.g ∧ p'.sz = p.sz ∧ p'.cap = p.cap ∧ p'.b = p.b ∧ p'.full = p.full
  keep : ∀ t p, E.β t = some p → E.H t = none → β t = some p
  old : ∀ g, g < E.w.heap.size → ¬ E.own g → w.heap[g]? = E.w.heap[g]?
  own : ∀ t es, t < E.n → H t = some es → (E.H t).isSome = true
  new : ∀ t p, E.n ≤ t → β t = some p → p.g < E.w.heap.size → E.own p.g
  back : ∀ t p, t < E.n → β t = some p → (E.β t).isSome = true
  elt : ∀ t p, E.β t = some p → t < E.n

/-- The relation of the states. -/
structure Sim (E : Entry) (β : Bt) (N : Nat) (a : Act) (w : World) (σ : St) : Prop where
  hs : HSim E.X β w σ.H σ.n
  fs : ∀ d, Rep β (okB E.X β σ.H) w (a.tmps.getD d undef) (σ.fr d)
  sz : a.tmps.size = N
  df : a.defers = []
  cx : Ctx E β w σ.H σ.n

def Bt.upd (β : Bt) (t : Nat) (p : Pl) : Bt := fun u => if u = t then some p else β u
theorem Bt.upd_self (β : Bt) (t : Nat) (p : Pl) : β.upd t p t = some p := by simp [Bt.upd]
theorem Bt.upd_ne (β : Bt) {t u : Nat} (p : Pl) (h : u ≠ t) : β.upd t p u = β u := by simp [Bt.upd, h]
theorem Heap.upd_self (H : Heap) (t : Nat) (es : Blk) : H.upd t es t = some es := by simp [Heap.upd]
theorem Heap.upd_ne (H : Heap) {t u : Nat} (es : Blk) (h : u ≠ t) : H.upd t es u = H u := by simp [Heap.upd, h]
theorem Heap.off_self (H : Heap) (t : Nat) : H.off t t = none := by simp [Heap.off]
theorem Heap.off_ne (H : Heap) {t u : Nat} (h : u ≠ t) : H.off t u = H u := by simp [Heap.off, h]

theorem getD_put (a : Act) (d : Option Nat) (v : Value) (u : Nat) (hd : ∀ k, d = some k → k < a.tmps.size) :
    (a.put d v).tmps.getD u undef = if d = some u then v else a.tmps.getD u undef := by
  cases d with
  | none => simp [Act.put]
  | some k =>
    have hk := hd k rfl
    by_cases e : k = u
    · subst e; simp [Act.put, hk]
    · simp [Act.put, Array.getElem?_setIfInBounds_ne e, e]

theorem Fr.put_app (fr : Fr) (d : Option Nat) (x : AV) (u : Nat) : fr.put d x u = if d = some u then x else fr u := by
  cases d with
  | none => simp [Fr.put]
  | some k => by_cases e : u = k <;> simp [Fr.put, Fr.set, e]; intro h; exact absurd h.symm e

/-- The frame behind a step that yields a value. -/
theorem Sim.put {E : Entry} {β β' : Bt} {N : Nat} {a : Act} {w w' : World} {σ : St} {H' : Heap} {n' : Nat} {d : Option Nat} {v : Value} {x : AV}
    (h : Sim E β N a w σ) (hs : HSim E.X β' w' H' n') (hst : Stp β (okB E.X β σ.H) w β' (okB E.X β' H') w') (hcx : Ctx E β' w' H' n')
    (hd : ∀ k, d = some k → k < N) (hv : Rep β' (okB E.X β' H') w' v x) : Sim E β' N (a.put d v) w' ⟨σ.fr.put d x, H', n'⟩ := by
  refine ⟨hs, fun u => ?_, ?_, ?_, hcx⟩
  · show Rep β' (okB E.X β' H') w' ((a.put d v).tmps.getD u undef) (σ.fr.put d x u)
    rw [getD_put a d v u (by rw [h.sz]; exact hd), Fr.put_app]
    split
    · exact hv
    · exact (h.fs u).stp hst
  · cases d <;> simp [Act.put, h.sz]
  · cases d <;> simp [Act.put, h.df]

/-- A world that differs by draws alone. -/
structure Same (w w' : World) : Prop where
  heap : w'.heap = w.heap
  os : w'.os = w.os
  tape : w'.tape = w.tape
  output : w'.output = w.output

theorem Same.refl (w : World) : Same w w := ⟨rfl, rfl, rfl, rfl⟩
theorem Same.drew (w : World) : Same w { w with drawn := w.drawn + 1 } := ⟨rfl, rfl, rfl, rfl⟩
theorem Same.cell {w w' : World} (h : Same w w') (a : Addr) : w'.cell? a = w.cell? a := by simp [World.cell?, h.heap]
theorem Same.stp {w w' : World} (h : Same w w') (β : Bt) (ok : Nat → Prop) : Stp β ok w β ok w' :=
  ⟨fun _ p h => ⟨p, h, rfl, rfl, rfl, rfl, rfl⟩, fun _ _ h _ _ => h, by rw [h.heap]; exact Nat.le_refl _, fun _ _ h => h, fun _ _ _ _ => h.cell _⟩

/-- The heap's relation, carried over a step that keeps H and the own blocks' cells. -/
theorem HSim.same {X : Nat → Prop} {β : Bt} {w w' : World} {H : Heap} {n : Nat} (h : HSim X β w H n) (s : Same w w') : HSim X β w' H n := by
  refine ⟨h.lt, h.inj, ?_, ?_, ?_⟩
  · intro t p hp; rw [s.heap]; exact h.blk t p hp
  · intro t es hes
    obtain ⟨p, hp, hd, hz, hl, hx⟩ := h.dom t es hes
    refine ⟨p, hp, hd, hz, hl, fun i x hi => ⟨(hx i x hi).1, fun j y hj => ?_⟩⟩
    obtain ⟨v, hv, hr⟩ := (hx i x hi).2 j y hj
    exact ⟨v, by rw [s.cell]; exact hv, hr.stp (s.stp β (okB X β H))⟩
  · intro g hg; rw [s.heap]; exact h.xlt g hg

theorem Ctx.same {E : Entry} {β : Bt} {w w' : World} {H : Heap} {n : Nat} (h : Ctx E β w H n) (s : Same w w') : Ctx E β w' H n :=
  ⟨by rw [s.heap]; exact h.size, s.os.trans h.os, s.tape.trans h.tape, s.output.trans h.output, h.le, h.tok, h.keep, fun g hg ho => by rw [s.heap]; exact h.old g hg ho, h.own, h.new, h.back, h.elt⟩

theorem Sim.same {E : Entry} {β : Bt} {N : Nat} {a : Act} {w w' : World} {σ : St} (h : Sim E β N a w σ) (s : Same w w') : Sim E β N a w' σ :=
  ⟨h.hs.same s, fun d => (h.fs d).stp (s.stp β (okB E.X β σ.H)), h.sz, h.df, h.cx.same s⟩

/-- The counter of tokens may be raised. -/
theorem Sim.raise {E : Entry} {β : Bt} {N : Nat} {a : Act} {w : World} {σ : St} (h : Sim E β N a w σ) {n' : Nat} (hn : σ.n ≤ n') : Sim E β N a w ⟨σ.fr, σ.H, n'⟩ :=
  ⟨⟨fun t p hp => Nat.lt_of_lt_of_le (h.hs.lt t p hp) hn, h.hs.inj, h.hs.blk, h.hs.dom, h.hs.xlt⟩, h.fs, h.sz, h.df,
    ⟨h.cx.size, h.cx.os, h.cx.tape, h.cx.output, Nat.le_trans h.cx.le hn, h.cx.tok, h.cx.keep, h.cx.old, h.cx.own, h.cx.new, h.cx.back, h.cx.elt⟩⟩

/-- A new block. -/
structure Grew (w w' : World) (c : Array Value) (e : TypeId) : Prop where
  heap : w'.heap = w.heap.push (.cells c e (0, 0))
  os : w'.os = w.os
  tape : w'.tape = w.tape
  output : w'.output = w.output

section
variable {w w' : World} {c : Array Value} {e : TypeId}
theorem Grew.get_lt (h : Grew w w' c e) {g : Nat} (hg : g < w.heap.size) : w'.heap[g]? = w.heap[g]? := by
  rw [h.heap, Array.getElem?_push, if_neg (by omega)]
theorem Grew.get_new (h : Grew w w' c e) : w'.heap[w.heap.size]? = some (.cells c e (0, 0)) := by rw [h.heap]; simp
theorem Grew.size (h : Grew w w' c e) : w'.heap.size = w.heap.size + 1 := by rw [h.heap]; simp
theorem Grew.cell_lt (h : Grew w w' c e) {g o : Nat} (hg : g < w.heap.size) : w'.cell? ⟨g, o, none⟩ = w.cell? ⟨g, o, none⟩ := by simp [World.cell?, h.get_lt hg]
theorem Grew.cell_new (h : Grew w w' c e) (o : Nat) : w'.cell? ⟨w.heap.size, o, none⟩ = c[o]? := by simp [World.cell?, h.get_new]
end

theorem HSim.plt {X : Nat → Prop} {β : Bt} {w : World} {H : Heap} {n : Nat} (h : HSim X β w H n) {t : Nat} {p : Pl} (hp : β t = some p) : p.g < w.heap.size := by
  obtain ⟨_, cur, e, hc, _⟩ := h.blk t p hp
  exact (Array.getElem?_eq_some_iff.1 hc).1

theorem HSim.free {X : Nat → Prop} {β : Bt} {w : World} {H : Heap} {n : Nat} (h : HSim X β w H n) {t : Nat} (hf : β t = none) : H t = none := by
  cases hh : H t with
  | none => rfl
  | some es => obtain ⟨p, hp, _⟩ := h.dom t es hh; rw [hf] at hp; cases hp

/-- What the new block's cells must stand for. -/
def CellsRep (β : Bt) (ok : Nat → Prop) (w : World) (c : Array Value) (sz : Nat) (es : List AV) : Prop :=
  ∀ (i : Nat) (x : AV), es[i]? = some x → x.cells.length = sz ∧ ∀ (j : Nat) (y : AV), x.cells[j]? = some y → ∃ v, c[i * sz + j]? = some v ∧ Rep β ok w v y

/-- The same, from a cell of the block on. -/
def CellsRepB (β : Bt) (ok : Nat → Prop) (w : World) (c : Array Value) (b sz : Nat) (es : List AV) : Prop :=
  ∀ (i : Nat) (x : AV), es[i]? = some x → x.cells.length = sz ∧ ∀ (j : Nat) (y : AV), x.cells[j]? = some y → ∃ v, c[b + (i * sz + j)]? = some v ∧ Rep β ok w v y
theorem CellsRep.toB {β : Bt} {ok : Nat → Prop} {w : World} {c : Array Value} {b sz : Nat} {es : List AV} (h : CellsRep β ok w c sz es) (hb : b = 0) : CellsRepB β ok w c b sz es := by
  subst hb; intro i x hi; refine ⟨(h i x hi).1, fun j y hj => ?_⟩; obtain ⟨v, hv, hr⟩ := (h i x hi).2 j y hj; exact ⟨v, by simpa using hv, hr⟩

section grew
variable {X : Nat → Prop} {β : Bt} {w w' : World} {H : Heap} {n tok : Nat} {c : Array Value} {e : TypeId}

theorem HSim.grew_stp (h : HSim X β w H n) (hg : Grew w w' c e) (p : Pl) (es : Blk) (hpg : p.g = w.heap.size) (hfree : β tok = none) :
    Stp β (okB X β H) w (β.upd tok p) (okB X (β.upd tok p) (H.upd tok es)) w' := by
  have hne : ∀ t q, β t = some q → t ≠ tok := fun t q hq e => by rw [e, hfree] at hq; cases hq
  refine ⟨fun t q hq => ⟨q, by rw [Bt.upd_ne β p (hne t q hq)]; exact hq, rfl, rfl, rfl, rfl, rfl⟩, fun t q hq _ _ => by rw [Bt.upd_ne β p (hne t q hq)]; exact hq, by rw [hg.size]; omega, ?_, fun g o hlt _ => hg.cell_lt hlt⟩
  intro g hlt ⟨hx, ho⟩
  refine ⟨hx, fun t es' q hes hq => ?_⟩
  by_cases e : t = tok
  · subst e; rw [Bt.upd_self] at hq; cases hq; omega
  · rw [Bt.upd_ne β p e] at hq; rw [Heap.upd_ne H es e] at hes; exact ho t es' q hes hq

/-- A new own block. -/
theorem HSim.grew (h : HSim X β w H n) (hg : Grew w w' c e) (sz cap : Nat) (es : List AV) (hfree : β tok = none) (htok : tok < n)
    (hl : es.length ≤ cap) (hcs : c.size = cap * sz) (hm : cap ≤ maxLen) (hc : CellsRep β (okB X β H) w c sz es) :
    HSim X (β.upd tok ⟨w.heap.size, sz, cap, false, 0, true⟩) w' (H.upd tok (sz, es)) n := by
  have st := h.grew_stp (tok := tok) hg ⟨w.heap.size, sz, cap, false, 0, true⟩ (sz, es) rfl hfree
  have hxx : ¬ X w.heap.size := fun hx => by have := h.xlt _ hx; omega
  refine ⟨?_, ?_, ?_, ?_, fun g hx => by rw [hg.size]; have := h.xlt g hx; omega⟩
  · intro t p hp
    by_cases e : t = tok
    · rw [e]; exact htok
    · rw [Bt.upd_ne β _ e] at hp; exact h.lt t p hp
  · intro t t' p p' hp hp' hgg hd hd'
    by_cases e : t = tok <;> by_cases e' : t' = tok
    · rw [e, e']
    · subst e; rw [Bt.upd_self] at hp; cases hp; rw [Bt.upd_ne β _ e'] at hp'; have := h.plt hp'; simp at hgg; omega
    · subst e'; rw [Bt.upd_self] at hp'; cases hp'; rw [Bt.upd_ne β _ e] at hp; have := h.plt hp; simp at hgg; omega
    · rw [Bt.upd_ne β _ e] at hp; rw [Bt.upd_ne β _ e'] at hp'; exact h.inj t t' p p' hp hp' hgg hd hd'
  · intro t p hp
    by_cases e' : t = tok
    · subst e'; rw [Bt.upd_self] at hp; cases hp; exact ⟨hxx, c, e, hg.get_new, ⟨by simp only; omega, fun _ => ⟨rfl, hcs⟩⟩, hm⟩
    · rw [Bt.upd_ne β _ e'] at hp
      obtain ⟨hx, cur, e2, h1, h2⟩ := h.blk t p hp
      exact ⟨hx, cur, e2, by rw [hg.get_lt (h.plt hp)]; exact h1, h2⟩
  · intro t es' hes
    by_cases e' : t = tok
    · subst e'; rw [Heap.upd_self] at hes; cases hes
      refine ⟨_, Bt.upd_self _ _ _, rfl, .inl ⟨rfl, rfl⟩, hl, fun i x hi => ⟨(hc i x hi).1, fun j y hj => ?_⟩⟩
      obtain ⟨v, hv, hr⟩ := (hc i x hi).2 j y hj
      exact ⟨v, by rw [hg.cell_new]; simpa using hv, hr.stp st⟩
    · rw [Heap.upd_ne H _ e'] at hes
      obtain ⟨p, hp, hd, hz, hl', hx⟩ := h.dom t es' hes
      refine ⟨p, by rw [Bt.upd_ne β _ e']; exact hp, hd, hz, hl', fun i x hi => ⟨(hx i x hi).1, fun j y hj => ?_⟩⟩
      obtain ⟨v, hv, hr⟩ := (hx i x hi).2 j y hj
      exact ⟨v, by rw [hg.cell_lt (h.plt hp)]; exact hv, hr.stp st⟩

end grew

/-- What the call began with, behind a new block. -/
theorem Ctx.grew {E : Entry} {β : Bt} {w w' : World} {H : Heap} {n tok : Nat} {c : Array Value} {e : TypeId} (h : Ctx E β w H n) (hg : Grew w w' c e) (p : Pl) (es : Blk)
    (hpg : p.g = w.heap.size) (hfree : β tok = none) (htok : E.n ≤ tok) : Ctx E (β.upd tok p) w' (H.upd tok es) n := by
  have hne : ∀ t q, β t = some q → t ≠ tok := fun t q hq e => by rw [e, hfree] at hq; cases hq
  refine ⟨by rw [hg.size]; have := h.size; omega, hg.os.trans h.os, hg.tape.trans h.tape, hg.output.trans h.output, h.le, ?_, ?_, ?_, ?_, ?_, ?_, h.elt⟩
  · intro t q hq
    obtain ⟨p', hp', h'⟩ := h.tok t q hq
    exact ⟨p', by rw [Bt.upd_ne β p (hne t p' hp')]; exact hp', h'⟩
  · intro t q hq hh
    have := h.keep t q hq hh
    rw [Bt.upd_ne β p (hne t q this)]; exact this
  · intro g hlt ho
    rw [hg.get_lt (by have := h.size; omega)]; exact h.old g hlt ho
  · intro t es' ht hes
    rw [Heap.upd_ne H es (by omega)] at hes; exact h.own t es' ht hes
  · intro t q ht hq hlt
    by_cases e' : t = tok
    · subst e'; rw [Bt.upd_self] at hq; cases hq; have := h.size; omega
    · rw [Bt.upd_ne β p e'] at hq; exact h.new t q ht hq hlt
  · intro t q ht hq
    rw [Bt.upd_ne β p (by omega)] at hq; exact h.back t q ht hq

end Go.Am
/-! Stores, appends in place, and the freezing of own blocks. -/
namespace Go.Am

section off
variable {X : Nat → Prop} {β : Bt} {w : World} {H : Heap} {n : Nat}

/-- Fewer own blocks: what was no own block is none. -/
theorem okB.less {H' : Heap} (hH : ∀ t es, H' t = some es → (H t).isSome = true) {g : Nat} (h : okB X β H g) : okB X β H' g := by
  refine ⟨h.1, fun t es p hes hp => ?_⟩
  have := hH t es hes
  cases hh : H t with
  | none => rw [hh] at this; cases this
  | some es0 => exact h.2 t es0 p hh hp

theorem Stp.less {H' : Heap} (hH : ∀ t es, H' t = some es → (H t).isSome = true) : Stp β (okB X β H) w β (okB X β H') w :=
  ⟨fun _ p h => ⟨p, h, rfl, rfl, rfl, rfl, rfl⟩, fun _ _ h _ _ => h, Nat.le_refl _, fun _ _ h => okB.less hH h, fun _ _ _ _ => rfl⟩

/-- Own blocks may be let go: they stay as they are from then on. -/
theorem HSim.less {H' : Heap} (h : HSim X β w H n) (hH : ∀ t es, H' t = some es → H t = some es) : HSim X β w H' n := by
  refine ⟨h.lt, h.inj, h.blk, ?_, h.xlt⟩
  intro t es hes
  obtain ⟨p, hp, hd, hz, hl, hx⟩ := h.dom t es (hH t es hes)
  refine ⟨p, hp, hd, hz, hl, fun i x hi => ⟨(hx i x hi).1, fun j y hj => ?_⟩⟩
  obtain ⟨v, hv, hr⟩ := (hx i x hi).2 j y hj
  exact ⟨v, hv, hr.stp (Stp.less fun t es hes => by rw [hH t es hes]; rfl)⟩
end off

theorem Ctx.less {E : Entry} {β : Bt} {w : World} {H H' : Heap} {n : Nat} (h : Ctx E β w H n) (hH : ∀ t es, H' t = some es → H t = some es) : Ctx E β w H' n :=
  ⟨h.size, h.os, h.tape, h.output, h.le, h.tok, h.keep, h.old, fun t es ht hes => h.own t es ht (hH t es hes), h.new, h.back, h.elt⟩

theorem Sim.less {E : Entry} {β : Bt} {N : Nat} {a : Act} {w : World} {σ : St} {H' : Heap} (h : Sim E β N a w σ) (hH : ∀ t es, H' t = some es → σ.H t = some es) :
    Sim E β N a w ⟨σ.fr, H', σ.n⟩ :=
  ⟨h.hs.less hH, fun d => (h.fs d).stp (Stp.less fun t es hes => by rw [hH t es hes]; rfl), h.sz, h.df, h.cx.less hH⟩

/-- One own block has been written; nothing else has turned. -/
structure Wrote (w w' : World) (g : Nat) (cur : Array Value) (e : TypeId) : Prop where
  get : w'.heap[g]? = some (.cells cur e (0, 0))
  other : ∀ k, k ≠ g → w'.heap[k]? = w.heap[k]?
  size : w'.heap.size = w.heap.size
  os : w'.os = w.os
  tape : w'.tape = w.tape
  output : w'.output = w.output

section wrote
variable {X : Nat → Prop} {β : Bt} {w w' : World} {H : Heap} {n t : Nat} {cur : Array Value} {e : TypeId} {p : Pl} {es es' : Blk}

theorem Wrote.cell {g : Nat} (h : Wrote w w' g cur e) {k o : Nat} (hk : k ≠ g) : w'.cell? ⟨k, o, none⟩ = w.cell? ⟨k, o, none⟩ := by simp [World.cell?, h.other k hk]
theorem Wrote.cell_at {g : Nat} (h : Wrote w w' g cur e) (o : Nat) : w'.cell? ⟨g, o, none⟩ = cur[o]? := by simp [World.cell?, h.get]

theorem okB.upd_iff (hH : H t = some es) (g : Nat) : okB X β (H.upd t es') g ↔ okB X β H g := by
  constructor
  · intro h
    refine ⟨h.1, fun u es2 q h2 hq => ?_⟩
    by_cases e : u = t
    · subst e; exact h.2 u es' q (Heap.upd_self _ _ _) hq
    · exact h.2 u es2 q (by rw [Heap.upd_ne H _ e]; exact h2) hq
  · intro h
    refine ⟨h.1, fun u es2 q h2 hq => ?_⟩
    by_cases e : u = t
    · subst e; exact h.2 u es q hH hq
    · rw [Heap.upd_ne H _ e] at h2; exact h.2 u es2 q h2 hq

theorem Wrote.stp (h : Wrote w w' p.g cur e) (hH : H t = some es) (hp : β t = some p) : Stp β (okB X β H) w β (okB X β (H.upd t es')) w' := by
  refine ⟨fun _ q h => ⟨q, h, rfl, rfl, rfl, rfl, rfl⟩, fun _ _ h _ _ => h, by rw [h.size]; exact Nat.le_refl _, fun g _ hg => (okB.upd_iff hH g).2 hg, ?_⟩
  intro g o _ hg
  exact h.cell (fun e => hg.2 t es p hH hp e.symm)

theorem HSim.wrote (h : HSim X β w H n) (hw : Wrote w w' p.g cur e) (hH : H t = some es) (hp : β t = some p) (hsz : ∀ cur0 e0, w.heap[p.g]? = some (.cells cur0 e0 (0, 0)) → cur.size = cur0.size) (hz' : p.full = true ∧ p.sz = es'.1 ∨ es'.1 = 0) (hl : es'.2.length ≤ p.cap)
    (hc : CellsRepB β (okB X β H) w cur p.b p.sz es'.2) : HSim X β w' (H.upd t es') n := by
  have st : Stp β (okB X β H) w β (okB X β (H.upd t es')) w' := hw.stp hH hp
  obtain ⟨p0, hp0, hd0, _, _, _⟩ := h.dom t es hH
  obtain rfl : p0 = p := by rw [hp] at hp0; cases hp0; rfl
  obtain ⟨hx0, _, _, _, _, hcap⟩ := h.blk t p0 hp
  refine ⟨h.lt, h.inj, ?_, ?_, fun g hx => by rw [hw.size]; exact h.xlt g hx⟩
  · intro u q hq
    by_cases hg : q.g = p0.g
    · obtain ⟨hx, cur0, e0, h1, h2, h3⟩ := h.blk u q hq
      rw [hg] at h1
      exact ⟨hx, cur, e, by rw [hg]; exact hw.get, by rw [hsz _ _ h1]; exact h2, h3⟩
    · obtain ⟨hx, cur0, e0, h1, h2⟩ := h.blk u q hq
      exact ⟨hx, cur0, e0, by rw [hw.other _ hg]; exact h1, h2⟩
  · intro u es2 h2
    by_cases hu : u = t
    · subst hu; rw [Heap.upd_self] at h2; cases h2
      refine ⟨p0, hp, hd0, hz', hl, fun i x hi => ⟨(hc i x hi).1, fun j y hj => ?_⟩⟩
      obtain ⟨v, hv, hr⟩ := (hc i x hi).2 j y hj
      exact ⟨v, by rw [hw.cell_at]; exact hv, hr.stp st⟩
    · rw [Heap.upd_ne H _ hu] at h2
      obtain ⟨q, hq, hd, hz, hl', hx⟩ := h.dom u es2 h2
      have hne : q.g ≠ p0.g := fun hg => hu (h.inj u t q p0 hq hp hg hd hd0)
      refine ⟨q, hq, hd, hz, hl', fun i x hi => ⟨(hx i x hi).1, fun j y hj => ?_⟩⟩
      obtain ⟨v, hv, hr⟩ := (hx i x hi).2 j y hj
      exact ⟨v, by rw [hw.cell hne]; exact hv, hr.stp st⟩

theorem Ctx.wrote {E : Entry} (h : Ctx E β w H n) (hw : Wrote w w' p.g cur e) (hH : H t = some es) (hp : β t = some p) : Ctx E β w' (H.upd t es') n := by
  refine ⟨by rw [hw.size]; exact h.size, hw.os.trans h.os, hw.tape.trans h.tape, hw.output.trans h.output, h.le, h.tok, h.keep, ?_, ?_, h.new, h.back, h.elt⟩
  · intro g hlt ho
    have hne : g ≠ p.g := by
      intro hg
      subst hg
      by_cases ht : t < E.n
      · have h1 := h.own t es ht hH
        have h2 := h.back t p ht hp
        cases hb : E.β t with
        | none => rw [hb] at h2; cases h2
        | some p0 =>
          cases hh : E.H t with
          | none => rw [hh] at h1; cases h1
          | some es0 =>
            obtain ⟨p', hp', hg', _⟩ := h.tok t p0 hb
            rw [hp] at hp'; cases hp'
            exact ho ⟨t, es0, p0, hh, hb, hg'.symm⟩
      · exact ho (h.new t p (by omega) hp hlt)
    rw [hw.other g hne]; exact h.old g hlt ho
  · intro u es2 hu h2
    by_cases e : u = t
    · subst e; exact h.own u es hu hH
    · rw [Heap.upd_ne H _ e] at h2; exact h.own u es2 hu h2
end wrote

section handon
variable {X : Nat → Prop} {β : Bt} {w w' : World} {H : Heap} {n t tok : Nat} {cur : Array Value} {e : TypeId} {p : Pl} {es es' : Blk}

/-- The tokens behind an append in place: the old one is dead, the new one holds the block. -/
def Bt.hand (β : Bt) (t tok : Nat) (p : Pl) : Bt := (β.upd t { p with dead := true }).upd tok p

theorem handH (hne : tok ≠ t) (u : Nat) (es2 : Blk) (h2 : ((H.off t).upd tok es') u = some es2) : (u = tok ∧ es2 = es') ∨ (u ≠ tok ∧ u ≠ t ∧ H u = some es2) := by
  by_cases e : u = tok
  · subst e; rw [Heap.upd_self] at h2; cases h2; exact .inl ⟨rfl, rfl⟩
  · rw [Heap.upd_ne _ _ e] at h2
    by_cases e' : u = t
    · subst e'; rw [Heap.off_self] at h2; cases h2
    · rw [Heap.off_ne _ e'] at h2; exact .inr ⟨e, e', h2⟩

theorem handB (hne : tok ≠ t) (u : Nat) (q : Pl) (hq : (β.hand t tok p) u = some q) : (u = tok ∧ q = p) ∨ (u = t ∧ q = { p with dead := true }) ∨ (u ≠ tok ∧ u ≠ t ∧ β u = some q) := by
  unfold Bt.hand at hq
  by_cases e : u = tok
  · subst e; rw [Bt.upd_self] at hq; cases hq; exact .inl ⟨rfl, rfl⟩
  · rw [Bt.upd_ne _ _ e] at hq
    by_cases e' : u = t
    · subst e'; rw [Bt.upd_self] at hq; cases hq; exact .inr (.inl ⟨rfl, rfl⟩)
    · rw [Bt.upd_ne _ _ e'] at hq; exact .inr (.inr ⟨e, e', hq⟩)

theorem hand_at (hne : tok ≠ t) : (β.hand t tok p) tok = some p ∧ (β.hand t tok p) t = some { p with dead := true } := by
  unfold Bt.hand
  exact ⟨Bt.upd_self _ _ _, by rw [Bt.upd_ne _ _ hne.symm, Bt.upd_self]⟩
theorem hand_ne {u : Nat} (h1 : u ≠ tok) (h2 : u ≠ t) : (β.hand t tok p) u = β u := by
  unfold Bt.hand; rw [Bt.upd_ne _ _ h1, Bt.upd_ne _ _ h2]

theorem Wrote.hand_stp (hw : Wrote w w' p.g cur e) (hH : H t = some es) (hp : β t = some p) (hfree : β tok = none) :
    Stp β (okB X β H) w (β.hand t tok p) (okB X (β.hand t tok p) ((H.off t).upd tok es')) w' := by
  have hne : tok ≠ t := fun e => by rw [e, hp] at hfree; cases hfree
  refine ⟨?_, ?_, by rw [hw.size]; exact Nat.le_refl _, ?_, ?_⟩
  · intro u q hq
    by_cases e : u = t
    · subst e; rw [hp] at hq; cases hq; exact ⟨_, (hand_at hne).2, rfl, rfl, rfl, rfl, rfl⟩
    · have hu : u ≠ tok := fun e => by rw [e, hfree] at hq; cases hq
      exact ⟨q, by rw [hand_ne hu e]; exact hq, rfl, rfl, rfl, rfl, rfl⟩
  · intro u q hq _ hok
    have e : u ≠ t := fun e => by subst e; rw [hp] at hq; cases hq; exact hok.2 u es p hH hp rfl
    have hu : u ≠ tok := fun e => by rw [e, hfree] at hq; cases hq
    rw [hand_ne hu e]; exact hq
  · intro g _ hg
    refine ⟨hg.1, fun u es2 q h2 hq => ?_⟩
    rcases handH hne u es2 h2 with ⟨rfl, rfl⟩ | ⟨h1, h3, h4⟩
    · rw [(hand_at hne).1] at hq; cases hq; exact hg.2 t es p hH hp
    · rw [hand_ne h1 h3] at hq; exact hg.2 u es2 q h4 hq
  · intro g o _ hg
    exact hw.cell (fun e => hg.2 t es p hH hp e.symm)

theorem HSim.handon (h : HSim X β w H n) (hw : Wrote w w' p.g cur e) (hH : H t = some es) (hp : β t = some p) (hfree : β tok = none) (htok : tok < n) (hsz : ∀ cur0 e0, w.heap[p.g]? = some (.cells cur0 e0 (0, 0)) → cur.size = cur0.size)
    (hz' : p.full = true ∧ p.sz = es'.1 ∨ es'.1 = 0) (hl : es'.2.length ≤ p.cap) (hc : CellsRepB β (okB X β H) w cur p.b p.sz es'.2) : HSim X (β.hand t tok p) w' ((H.off t).upd tok es') n := by
  have hne : tok ≠ t := fun e => by rw [e, hp] at hfree; cases hfree
  have st : Stp β (okB X β H) w (β.hand t tok p) (okB X (β.hand t tok p) ((H.off t).upd tok es')) w' := hw.hand_stp hH hp hfree
  obtain ⟨p0, hp0, hd0, _, _, _⟩ := h.dom t es hH
  obtain rfl : p0 = p := by rw [hp] at hp0; cases hp0; rfl
  obtain ⟨hx0, cur1, e1, g1, g2, hcap⟩ := h.blk t p0 hp
  refine ⟨?_, ?_, ?_, ?_, fun g hx => by rw [hw.size]; exact h.xlt g hx⟩
  · intro u q hq
    rcases handB hne u q hq with ⟨rfl, _⟩ | ⟨rfl, _⟩ | ⟨_, _, hq'⟩
    · exact htok
    · exact h.lt u p0 hp
    · exact h.lt u q hq'
  · intro u u' q q' hq hq' hgg hd hd'
    rcases handB hne u q hq with ⟨rfl, rfl⟩ | ⟨rfl, rfl⟩ | ⟨a1, a2, hu⟩
    · rcases handB hne u' q' hq' with ⟨rfl, rfl⟩ | ⟨rfl, rfl⟩ | ⟨b1, b2, hu'⟩
      · rfl
      · cases hd'
      · exact absurd (h.inj u' t q' q hu' hp hgg.symm hd' hd) b2
    · cases hd
    · rcases handB hne u' q' hq' with ⟨rfl, rfl⟩ | ⟨rfl, rfl⟩ | ⟨b1, b2, hu'⟩
      · exact absurd (h.inj u t q q' hu hp hgg hd hd') a2
      · cases hd'
      · exact h.inj u u' q q' hu hu' hgg hd hd'
  · have key : ∀ (u : Nat) (q : Pl), β u = some q → ¬ X q.g ∧ ∃ cur e, w'.heap[q.g]? = some (.cells cur e (0, 0)) ∧ (q.b + q.cap * q.sz ≤ cur.size ∧ (q.full = true → q.b = 0 ∧ cur.size = q.cap * q.sz)) ∧ q.cap ≤ maxLen := by
      intro u q hq
      by_cases hg : q.g = p0.g
      · obtain ⟨hx, cur0, e0, h1, h2, h3⟩ := h.blk u q hq
        rw [hg] at h1
        exact ⟨hx, cur, e, by rw [hg]; exact hw.get, by rw [hsz _ _ h1]; exact h2, h3⟩
      · obtain ⟨hx, cur0, e0, h1, h2⟩ := h.blk u q hq
        exact ⟨hx, cur0, e0, by rw [hw.other _ hg]; exact h1, h2⟩
    intro u q hq
    rcases handB hne u q hq with ⟨rfl, rfl⟩ | ⟨rfl, rfl⟩ | ⟨_, _, hq'⟩
    · exact key t q hp
    · exact key u p0 hp
    · exact key u q hq'
  · intro u es2 h2
    rcases handH hne u es2 h2 with ⟨rfl, rfl⟩ | ⟨h1, h3, h4⟩
    · refine ⟨p0, (hand_at hne).1, hd0, hz', hl, fun i x hi => ⟨(hc i x hi).1, fun j y hj => ?_⟩⟩
      obtain ⟨v, hv, hr⟩ := (hc i x hi).2 j y hj
      exact ⟨v, by rw [hw.cell_at]; exact hv, hr.stp st⟩
    · obtain ⟨q, hq, hd, hz, hl', hx⟩ := h.dom u es2 h4
      have hne' : q.g ≠ p0.g := fun hg => h3 (h.inj u t q p0 hq hp hg hd hd0)
      refine ⟨q, by rw [hand_ne h1 h3]; exact hq, hd, hz, hl', fun i x hi => ⟨(hx i x hi).1, fun j y hj => ?_⟩⟩
      obtain ⟨v, hv, hr⟩ := (hx i x hi).2 j y hj
      exact ⟨v, by rw [hw.cell hne']; exact hv, hr.stp st⟩

theorem Ctx.handon {E : Entry} (h : Ctx E β w H n) (hw : Wrote w w' p.g cur e) (hH : H t = some es) (hp : β t = some p) (hfree : β tok = none) (htok : E.n ≤ tok) :
    Ctx E (β.hand t tok p) w' ((H.off t).upd tok es') n := by
  have hne : tok ≠ t := fun e => by rw [e, hp] at hfree; cases hfree
  have hown : p.g < E.w.heap.size → E.own p.g := by
    intro hlt
    by_cases ht : t < E.n
    · have h1 := h.own t es ht hH
      have h2 := h.back t p ht hp
      cases hb : E.β t with
      | none => rw [hb] at h2; cases h2
      | some p0 =>
        cases hh : E.H t with
        | none => rw [hh] at h1; cases h1
        | some es0 =>
          obtain ⟨p', hp', hg', _⟩ := h.tok t p0 hb
          rw [hp] at hp'; cases hp'
          exact ⟨t, es0, p0, hh, hb, hg'.symm⟩
    · exact h.new t p (by omega) hp hlt
  refine ⟨by rw [hw.size]; exact h.size, hw.os.trans h.os, hw.tape.trans h.tape, hw.output.trans h.output, h.le, ?_, ?_, ?_, ?_, ?_, ?_, h.elt⟩
  · intro u q hq
    obtain ⟨p', hp', h1, h2, h3⟩ := h.tok u q hq
    by_cases e' : u = t
    · subst e'; rw [hp] at hp'; cases hp'; exact ⟨_, (hand_at hne).2, h1, h2, h3⟩
    · have hu : u ≠ tok := fun e => by rw [e, hfree] at hp'; cases hp'
      exact ⟨p', by rw [hand_ne hu e']; exact hp', h1, h2, h3⟩
  · intro u q hq hh
    have hk := h.keep u q hq hh
    have e' : u ≠ t := fun e => by
      subst e
      have := h.own u es (h.elt u q hq) hH
      rw [hh] at this; cases this
    have hu : u ≠ tok := fun e => by rw [e, hfree] at hk; cases hk
    rw [hand_ne hu e']; exact hk
  · intro g hlt ho
    have hne : g ≠ p.g := fun hg => by subst hg; exact ho (hown hlt)
    rw [hw.other g hne]; exact h.old g hlt ho
  · intro u es2 hu h2
    rcases handH hne u es2 h2 with ⟨rfl, _⟩ | ⟨_, _, h4⟩
    · omega
    · exact h.own u es2 hu h4
  · intro u q hu hq hlt
    rcases handB hne u q hq with ⟨rfl, rfl⟩ | ⟨rfl, rfl⟩ | ⟨_, _, hq'⟩
    · exact hown hlt
    · exact hown hlt
    · exact h.new u q hu hq' hlt
  · intro u q hu hq
    rcases handB hne u q hq with ⟨rfl, _⟩ | ⟨rfl, _⟩ | ⟨_, _, hq'⟩
    · omega
    · exact h.back u p hu hp
    · exact h.back u q hu hq'
end handon

end Go.Am
/-! The compiler from the loaded code to the abstract machine's code. -/
namespace Go.Am

/-- A constant that stands in one cell. -/
def cell1 : Value → Option AV
  | .bool b => some (.b b)
  | .int k n => some (.i k n)
  | .string s => some (.s s)
  | .slice none 0 0 => some .nl
  | _ => none

def cells1 : List Value → Option (List AV)
  | [] => some []
  | v :: r => match cell1 v, cells1 r with
    | some x, some xs => some (x :: xs)
    | _, _ => none

/-- A constant. -/
def cval : Value → Option AV
  | .agg cs => (cells1 cs.toList).map .agg
  | v => cell1 v

def copd : Operand → Option AO
  | .tmp t => some (.t t)
  | .const v => (cval v).map .c
  | .func f => some (.c (.fn f []))
  | .global _ => none

def copds : List Operand → Option (List AO)
  | [] => some []
  | v :: r => match copd v, copds r with
    | some x, some xs => some (x :: xs)
    | _, _ => none

def copdo : Option Operand → Option (Option AO)
  | none => some none
  | some x => (copd x).map some

variable (P : Program) (rw : Nat → Bool) (rv : Bool)

/-- A type's size and whether it is a struct or an array. -/
def tyOf (t : TypeId) : Option (Bool × Nat) :=
  match P.underlying t, P.info? t with
  | some (.struct _), some i => some (true, i.size)
  | some (.array _ _), some i => some (true, i.size)
  | some _, some i => some (false, i.size)
  | _, _ => none

/-- How a variable of this type is read. -/
def ldOf (t : TypeId) : Option (Option Nat) :=
  match tyOf P t with
  | some (true, s) => some (some s)
  | some (false, 1) => some none
  | _ => none

def zeroOf (t : TypeId) : Option AV :=
  match P.info? t with
  | some i => match i.zero with
    | some z => match cval z with
      | some x => if x.cells.length = i.size ∧ z.cells.size = i.size ∧ 0 < i.size then some x else none
      | none => none
    | none => none
  | none => none

def partsS (fs : Array Field) : List (Nat × Operand) → Option (List (Nat × Nat × AO))
  | [] => some []
  | (i, x) :: r => match fs[i]?, copd x, partsS fs r with
    | some f, some o, some l => match tyOf P f.type with
      | some (_, s) => some ((f.offset, s, o) :: l)
      | none => none
    | _, _, _ => none

def partsA (s : Nat) : List (Nat × Operand) → Option (List (Nat × Nat × AO))
  | [] => some []
  | (i, x) :: r => match copd x, partsA s r with
    | some o, some l => some ((i * s, s, o) :: l)
    | _, _ => none

def partsL : List (Nat × Operand) → Option (List (Nat × AO))
  | [] => some []
  | (i, x) :: r => match copd x, partsL r with
    | some o, some l => some ((i, o) :: l)
    | _, _ => none

/-- A type whose values are compared by their one cell. -/
def eqType (t : TypeId) : Bool :=
  match P.underlying t with
  | some (.int _) => true
  | some .string => true
  | _ => false

def isBoolT (t : TypeId) : Bool :=
  match P.underlying t with
  | some .bool => true
  | _ => false

/-- The operation. -/
def cop1 (op : Op) : Option AOp :=
  match op with
  | .move x => (copd x).map .mv
  | .assign x => (copd x).map .mv
  | .pick c a b => match copd c, copd a, copd b with
    | some c, some a, some b => some (.pick c a b)
    | _, _, _ => none
  | .alloc t => (zeroOf P t).map .new
  | .box _ x => (copd x).map .box
  | .build t ps => match P.underlying t, zeroOf P t with
    | some (.struct fs), some z => if fs.toList.all (fun f => (tyOf P f.type).isSome) then (partsS P fs ps.toList).map (.bld z.cells) else none
    | some (.array _ e), some z => match tyOf P e with
      | some (_, s) => (partsA s ps.toList).map (.bld z.cells)
      | none => none
    | _, _ => none
  | .buildSlice t n ps => match P.underlying t with
    | some (.slice e) => match zeroOf P e, P.info? e with
      | some z, some i => if n * i.size ≤ 2 ^ 24 then (partsL ps.toList).map (.bsl z n) else none
      | _, _ => none
    | _ => none
  | .load t a => match ldOf P t, copd a with
    | some s, some a => some (.ld s a)
    | _, _ => none
  | .store t a v => match ldOf P t, copd a, copd v with
    | some s, some a, some v => some (.st s a v)
    | _, _, _ => none
  | .nilCheck x => (copd x).map .nck
  | .binOp op t x y _ => match copd x, copd y with
    | some x, some y =>
      if isBoolT P t then match op with
        | .eql => some (.beq false x y)
        | .neq => some (.beq true x y)
        | _ => none
      else if eqType P t then some (.bin op x y) else none
    | _, _ => none
  | .unOp .not _ x => (copd x).map .not
  | .unOp .neg _ x => (copd x).map .neg
  | .convert s d x => match P.underlying s, P.underlying d with
    | some (.int _), some (.int k) => (copd x).map (.cvt k)
    | _, _ => none
  | .extract x i => (copd x).map (.ext i)
  | .makeFunc (.func f) first caps => if first.size = 0 then (copds caps.toList).map (.mkf f) else none
  | .makeSlice t l c => match P.underlying t with
    | some (.slice e) => match zeroOf P e, P.info? e, copd l, copd c with
      | some z, some i, some l, some c => some (.mks z i.bytes l c)
      | _, _, _, _ => none
    | _ => none
  | .slice t x lo hi none => match P.underlying t with
    | some (.slice e) => match tyOf P e, copd x, copdo lo, copdo hi with
      | some (_, s), some x, some lo, some hi => some (.slc s x lo hi)
      | _, _, _, _ => none
    | _ => none
  | .fieldAddr t x f => match P.underlying t with
    | some (.struct fs) => match fs[f]?, copd x with
      | some f, some x => match tyOf P f.type with
        | some (_, s) => if s = 0 then none else some (.fad f.offset x)
        | none => none
      | _, _ => none
    | _ => none
  | .field t x f => match P.underlying t with
    | some (.struct fs) => match fs[f]?, copd x with
      | some f, some x => (ldOf P f.type).map fun s => .fld s f.offset x
      | _, _ => none
    | _ => none
  | .indexAddr t x i => match P.underlying t, copd x, copd i with
    | some (.slice e), some x, some i => match tyOf P e with
      | some (_, s) => some (.iad s x i)
      | none => none
    | some (.array n e), some x, some i => match tyOf P e with
      | some (_, s) => some (.aad n s x i)
      | none => none
    | _, _, _ => none
  | .index t x i => match P.underlying t, copd x, copd i with
    | some .string, some x, some i => some (.sidx x i)
    | _, _, _ => none
  | .call c => match c.callee with
    | .builtin .len => match c.args.toList, c.argTypes.toList with
      | [x], [t] => match P.underlying t with
        | some (.slice _) => (copd x).map .len
        | some .string => (copd x).map .slen
        | _ => none
      | _, _ => none
    | .builtin .append => match c.args.toList, c.argTypes.toList with
      | [x, y], [t, u] => match P.underlying t, P.underlying u with
        | some (.slice e), some (.slice _) => match zeroOf P e, P.info? e, copd x, copd y with
          | some _, some i, some x, some y => some (.app i.size i.bytes x y)
          | _, _, _, _ => none
        | _, _ => none
      | _, _ => none
    | .value (.func f) => (copds c.args.toList).map (.call (rw f) f)
    | .value (.tmp t) => (copds c.args.toList).map (.callv rv t)
    | _ => none
  | _ => none

def dstOk (N : Nat) : Option Nat → Bool
  | some d => decide (d < N)
  | none => true

/-- One operation of a region. -/
def cop (N : Nat) (ops : Array Oper) (o : Oper) : Option AI :=
  match cop1 P rw rv o.op with
  | none => none
  | some op =>
    if dstOk N o.dst then
      match o.guard with
      | none => some ⟨o.dst, op, none, []⟩
      | some (j, b) => match (ops[j]?).bind (·.dst) with
        | some s => some ⟨o.dst, op, some (s, b), []⟩
        | none => none
    else none

def cops (N : Nat) (ops : Array Oper) : List Oper → Option (List AI)
  | [] => some []
  | o :: r => match cop P rw rv N ops o, cops N ops r with
    | some i, some l => some (i :: l)
    | _, _ => none

end Go.Am
/-! Each operation of the machine does what the abstract machine says: what leaves memory alone. -/
namespace Go.Am
set_option linter.unusedVariables false
set_option linter.unusedSimpArgs false

section inv
variable {β : Bt} {ok : Nat → Prop} {w : World} {v : Value}
theorem Rep.b_inv {x : Bool} (h : Rep β ok w v (.b x)) : v = .bool x := by cases h; rfl
theorem Rep.i_inv {k : IntKind} {n : Int} (h : Rep β ok w v (.i k n)) : v = .int k n := by cases h; rfl
theorem Rep.s_inv {x : ByteArray} (h : Rep β ok w v (.s x)) : v = .string x := by cases h; rfl
theorem Rep.agg_inv {cs : List AV} (h : Rep β ok w v (.agg cs)) : ∃ vs, v = .agg vs ∧ vs.size = cs.length ∧ ∀ (j : Nat) (y : AV), cs[j]? = some y → Rep β ok w ((vs[j]?).getD undef) y := by
  cases h; exact ⟨_, rfl, by assumption, by assumption⟩
theorem Rep.tup_inv {cs : List AV} (h : Rep β ok w v (.tup cs)) : ∃ vs, v = .tuple vs ∧ vs.size = cs.length ∧ ∀ (j : Nat) (y : AV), cs[j]? = some y → Rep β ok w ((vs[j]?).getD undef) y := by
  cases h; exact ⟨_, rfl, by assumption, by assumption⟩
theorem Rep.nl_inv (h : Rep β ok w v .nl) : v = .slice none 0 0 := by cases h; rfl
theorem Rep.pr_inv {e : AV} {o : Nat} (h : Rep β ok w v (.pr e o)) : ∃ (g b : Nat) (cv : Nat → Value), v = .pointer (some ⟨g, b + o, none⟩) ∧ ok g ∧ g < w.heap.size ∧
    (∀ j, j < e.cells.length → w.cell? ⟨g, b + j, none⟩ = some (cv j)) ∧ (∀ (j : Nat) (y : AV), e.cells[j]? = some y → Rep β ok w (cv j) y) := by
  cases h; exact ⟨_, _, _, rfl, by assumption, by assumption, by assumption, by assumption⟩
theorem Rep.ad_inv {t i o : Nat} (h : Rep β ok w v (.ad t i o)) : ∃ p, β t = some p ∧ v = .pointer (some ⟨p.g, p.b + (i * p.sz + o), none⟩) := by
  cases h; exact ⟨_, by assumption, rfl⟩
theorem Rep.rf_inv {t s m : Nat} (h : Rep β ok w v (.rf t s m)) : ∃ (p : Pl) (a : Option Addr) (c : Nat), β t = some p ∧ v = .slice a m c ∧ ((m ≠ 0 ∨ s = 0) → a = some ⟨p.g, p.b + s * p.sz, none⟩) ∧ m ≤ c ∧ (p.full = true → s = 0 → c = p.cap) := by
  cases h; exact ⟨_, _, _, by assumption, rfl, by assumption, by assumption, by assumption⟩
theorem Rep.fn_inv {f : Nat} {caps : List AV} (h : Rep β ok w v (.fn f caps)) : ∃ vs, v = .func (.func f) #[] vs ∧ vs.size = caps.length ∧ ∀ (j : Nat) (y : AV), caps[j]? = some y → Rep β ok w ((vs[j]?).getD undef) y := by
  cases h; exact ⟨_, rfl, by assumption, by assumption⟩
/-- A slice value: its length, and, where it has elements, where they lie. -/
theorem Rep.sl_inv {t : Option Nat} {xs : List AV} (h : Rep β ok w v (.sl t xs)) : ∃ (a : Option Addr) (c : Nat), v = .slice a xs.length c ∧ xs.length ≤ c ∧ (xs ≠ [] → ∃ (g o sz : Nat) (cv : Nat → Nat → Value),
      a = some ⟨g, o, none⟩ ∧ ok g ∧ g < w.heap.size ∧ (∀ k, t = some k → ∃ p, β k = some p ∧ p.g = g ∧ p.dead = false) ∧
      (∀ (i : Nat) (x : AV), xs[i]? = some x → x.cells.length = sz) ∧ (∀ (i : Nat) (x : AV) (j : Nat), xs[i]? = some x → j < sz → w.cell? ⟨g, o + i * sz + j, none⟩ = some (cv i j)) ∧
      (∀ (i : Nat) (x : AV) (j : Nat) (y : AV), xs[i]? = some x → x.cells[j]? = some y → Rep β ok w (cv i j) y)) := by
  cases h with
  | sl0 t a c => exact ⟨a, c, rfl, Nat.zero_le _, fun h => absurd rfl h⟩
  | sl g o c sz t xs cv hc hg hlt ht hs hm hr => exact ⟨_, c, rfl, hc, fun _ => ⟨g, o, sz, cv, rfl, hg, hlt, ht, hs, hm, hr⟩⟩
end inv

theorem cell1_rep {v : Value} {x : AV} (h : cell1 v = some x) (β : Bt) (ok : Nat → Prop) (w : World) : Rep β ok w v x ∧ x.cells = [x] ∧ v.cells = #[v] ∧ cellOk x = true := by
  unfold cell1 at h
  split at h <;> first | cases h | skip
  · exact ⟨.b _, rfl, rfl, rfl⟩
  · exact ⟨.i _ _, rfl, rfl, rfl⟩
  · exact ⟨.s _, rfl, rfl, rfl⟩
  · exact ⟨.nl, rfl, rfl, rfl⟩

theorem cells1_rep : ∀ {vs : List Value} {xs : List AV} (h : cells1 vs = some xs) (β : Bt) (ok : Nat → Prop) (w : World),
    vs.length = xs.length ∧ ∀ (j : Nat) (y : AV), xs[j]? = some y → ∃ u, vs[j]? = some u ∧ Rep β ok w u y
  | [], xs, h, β, ok, w => by cases h; exact ⟨rfl, fun j y hj => by simp at hj⟩
  | v :: r, xs, h, β, ok, w => by
    simp only [cells1] at h
    split at h
    · rename_i x xs' h1 h2
      cases h
      have ih := cells1_rep h2 β ok w
      refine ⟨by simp [ih.1], fun j y hj => ?_⟩
      cases j with
      | zero => simp at hj; subst hj; exact ⟨v, rfl, (cell1_rep h1 β ok w).1⟩
      | succ j => simp at hj; simpa using ih.2 j y hj
    · cases h

theorem cval_rep {v : Value} {x : AV} (h : cval v = some x) (β : Bt) (ok : Nat → Prop) (w : World) :
    Rep β ok w v x ∧ v.cells.size = x.cells.length ∧ ∀ (j : Nat) (y : AV), x.cells[j]? = some y → ∃ u, v.cells[j]? = some u ∧ Rep β ok w u y := by
  have one : ∀ {v : Value} {x : AV}, cell1 v = some x → Rep β ok w v x ∧ v.cells.size = x.cells.length ∧ ∀ (j : Nat) (y : AV), x.cells[j]? = some y → ∃ u, v.cells[j]? = some u ∧ Rep β ok w u y := by
    intro v x h
    obtain ⟨h1, h2, h3, _⟩ := cell1_rep h β ok w
    refine ⟨h1, by rw [h2, h3]; rfl, fun j y hj => ?_⟩
    rw [h2] at hj; rw [h3]
    cases j with
    | zero => simp at hj; subst hj; exact ⟨v, rfl, h1⟩
    | succ j => simp at hj
  unfold cval at h
  split at h
  · rename_i cs
    cases hx : cells1 cs.toList with
    | none => rw [hx] at h; cases h
    | some xs =>
      rw [hx] at h; cases h
      obtain ⟨hl, hy⟩ := cells1_rep hx β ok w
      refine ⟨.agg _ _ (by simpa using hl) fun j y hj => ?_, by simpa [Value.cells, AV.cells] using hl, fun j y hj => by simpa [Value.cells] using hy j y hj⟩
      obtain ⟨u, hu, hr⟩ := hy j y hj
      simp at hu
      simpa [hu] using hr
  · exact one h

section opd
variable {E : Entry} {β : Bt} {N : Nat} {a : Act} {w : World} {σ : St}

theorem opd_rep (h : Sim E β N a w σ) {x : Operand} {y : AO} (hc : copd x = some y) : Rep β (okB E.X β σ.H) w (a.eval x) (y.ev σ.fr) := by
  cases x with
  | tmp t => cases hc; exact h.fs t
  | const v =>
    simp only [copd] at hc
    cases hv : cval v with
    | none => rw [hv] at hc; cases hc
    | some z => rw [hv] at hc; cases hc; exact (cval_rep hv _ _ _).1
  | global g => cases hc
  | func f => cases hc; exact .fn f [] #[] rfl fun j y hj => by simp at hj

theorem opds_rep (h : Sim E β N a w σ) : ∀ {xs : List Operand} {ys : List AO} (hc : copds xs = some ys),
    xs.length = ys.length ∧ ∀ (j : Nat) (y : AO), ys[j]? = some y → ∃ x, xs[j]? = some x ∧ Rep β (okB E.X β σ.H) w (a.eval x) (y.ev σ.fr)
  | [], ys, hc => by cases hc; exact ⟨rfl, fun j y hj => by simp at hj⟩
  | x :: r, ys, hc => by
    simp only [copds] at hc
    split at hc
    · rename_i z zs h1 h2
      cases hc
      have ih := opds_rep h h2
      refine ⟨by simp [ih.1], fun j y hj => ?_⟩
      cases j with
      | zero => simp at hj; subst hj; exact ⟨x, rfl, opd_rep h h1⟩
      | succ j => simp at hj; simpa using ih.2 j y hj
    · cases hc
end opd

/-- What an operation comes to. -/
def Res (E : Entry) (β : Bt) (w : World) (σ : St) (tok : Nat) (r : Result Next) (x : AV) (H' : Heap) : Prop :=
  ∃ nx v w' β', r = .ok nx w' ∧ (nx = .value v ∨ (nx = .skip ∧ v = undef)) ∧ HSim E.X β' w' H' σ.n ∧ Stp β (okB E.X β σ.H) w β' (okB E.X β' H') w' ∧
    Ctx E β' w' H' σ.n ∧ Rep β' (okB E.X β' H') w' v x ∧ ∀ u, u ≠ tok → β u = none → β' u = none

section ops
variable {P : Program} {E : Entry} {β : Bt} {N : Nat} {a : Act} {w : World} {σ : St} {tok : Nat} {x : AV} {H' : Heap} {o : Oper}

theorem res_pure (h : Sim E β N a w σ) {v : Value} {r : Result Next} (hr : r = .ok (.value v) w) (hv : Rep β (okB E.X β σ.H) w v x) : Res E β w σ tok r x σ.H :=
  ⟨_, v, w, β, hr, .inl rfl, h.hs, Stp.refl _ _ _, h.cx, hv, fun _ _ h => h⟩

theorem op_mv (h : Sim E β N a w σ) {y : Operand} {z : AO} (ho : o.op = .move y ∨ o.op = .assign y) (hc : copd y = some z) : Res E β w σ tok ((execOp a.eval o).run P w) (z.ev σ.fr) σ.H := by
  refine res_pure h ?_ (opd_rep h hc)
  rcases ho with ho | ho <;> simp [execOp, ho]

theorem op_pick (h : Sim E β N a w σ) {c y z : Operand} {c' y' z' : AO} (ho : o.op = .pick c y z) (h1 : copd c = some c') (h2 : copd y = some y') (h3 : copd z = some z') {q : Bool}
    (hq : c'.ev σ.fr = .b q) : Res E β w σ tok ((execOp a.eval o).run P w) (if q then y'.ev σ.fr else z'.ev σ.fr) σ.H := by
  have hb := (hq ▸ opd_rep h h1 : Rep _ _ _ _ (.b q)).b_inv
  cases q
  · exact res_pure h (by simp [execOp, ho, hb, asBool]) (opd_rep h h3)
  · exact res_pure h (by simp [execOp, ho, hb, asBool]) (opd_rep h h2)

theorem tyOf_info {t : TypeId} {b : Bool} {s : Nat} (h : tyOf P t = some (b, s)) : ∃ i d, P.info? t = some i ∧ i.size = s ∧ P.underlying t = some d ∧ d.isRow = b := by
  unfold tyOf at h
  split at h <;> first | cases h | skip
  · exact ⟨_, _, by assumption, rfl, by assumption, rfl⟩
  · exact ⟨_, _, by assumption, rfl, by assumption, rfl⟩
  · rename_i d i h1 h2 hd hi
    refine ⟨i, d, hi, rfl, hd, ?_⟩
    cases d <;> simp_all [TypeDesc.isRow]

theorem run_sizeOf_ty {t : TypeId} {b : Bool} {s : Nat} (h : tyOf P t = some (b, s)) (w : World) : (sizeOf t).run P w = .ok s w := by
  obtain ⟨i, d, h1, h2, _⟩ := tyOf_info h
  simp [sizeOf, typeInfo, h1, h2]

theorem run_isAgg_ty {t : TypeId} {b : Bool} {s : Nat} (h : tyOf P t = some (b, s)) (w : World) : (isAgg t).run P w = .ok b w := by
  obtain ⟨i, d, h1, h2, h3, h4⟩ := tyOf_info h
  unfold isAgg
  rw [Sem.run_bind, run_underlying h3 w]
  subst h4
  cases d <;> simp [TypeDesc.isRow]

theorem look_cells {H : Heap} {n : Nat} (hs : HSim E.X β w H n) {v : Value} {av : AV} (hv : Rep β (okB E.X β H) w v av) {e : AV} {of : Nat} (hl : look H av = some (e, of)) :
    ∃ g b, v = .pointer (some ⟨g, b + of, none⟩) ∧ ∀ (j : Nat) (y : AV), e.cells[j]? = some y → ∃ u, w.cell? ⟨g, b + j, none⟩ = some u ∧ Rep β (okB E.X β H) w u y := by
  unfold look at hl
  split at hl
  · cases hl
    obtain ⟨g, b, cv, rfl, _, _, hm, hr⟩ := hv.pr_inv
    exact ⟨g, b, rfl, fun j y hj => ⟨cv j, hm j (by have := (List.getElem?_eq_some_iff.1 hj).1; exact this), hr j y hj⟩⟩
  · split at hl
    · rename_i zz es hes
      split at hl
      · rename_i e0 he
        cases hl
        obtain ⟨p, hp, rfl⟩ := hv.ad_inv
        obtain ⟨p', hp', _, _, _, hx⟩ := hs.dom _ _ hes
        rw [hp] at hp'; cases hp'
        exact ⟨p.g, p.b + _ * p.sz, (by rw [Nat.add_assoc]), fun j y hj => by simp only [Nat.add_assoc]; exact (hx _ _ he).2 j y hj⟩
      · cases hl
    · cases hl
  · cases hl

/-- The cells of a range as a list. -/
noncomputable def cellsAt (w : World) (g b k : Nat) : List Value := (List.range k).map fun j => (w.cell? ⟨g, b + j, none⟩).getD undef

theorem run_loadVar_rep {t : TypeId} {s : Option Nat} (ht : ldOf P t = some s) {g b of : Nat} {cs : List AV} {ok : Nat → Prop} {w : World}
    (hc : ∀ (j : Nat) (y : AV), cs[j]? = some y → ∃ u, w.cell? ⟨g, b + j, none⟩ = some u ∧ Rep β ok w u y) (hp : partOf s cs of = some x) :
    ∃ v, (loadVar t ⟨g, b + of, none⟩).run P w = .ok v w ∧ Rep β ok w v x := by
  unfold ldOf at ht
  split at ht
  · rename_i k hk
    cases ht
    simp only [partOf] at hp
    split at hp
    · rename_i hle
      cases hp
      obtain ⟨i, d, h1, h2, h3, h4⟩ := tyOf_info hk
      have hcell : ∀ j, j < k → ∃ u, w.cell? ⟨g, b + of + j, none⟩ = some u ∧ ∀ y, cs[of + j]? = some y → Rep β ok w u y := by
        intro j hj
        have hlt : of + j < cs.length := by omega
        obtain ⟨u, hu, hr⟩ := hc (of + j) cs[of + j] (List.getElem?_eq_getElem hlt)
        refine ⟨u, by rw [← hu]; simp [Nat.add_assoc], fun y hy => ?_⟩
        rw [List.getElem?_eq_getElem hlt] at hy; cases hy; exact hr
      have hlen : (cellsAt w g (b + of) k).length = k := by simp [cellsAt]
      have hget : ∀ j, j < k → ∃ u, (cellsAt w g (b + of) k)[j]? = some u ∧ w.cell? ⟨g, b + of + j, none⟩ = some u := by
        intro j hj
        obtain ⟨u, hu, _⟩ := hcell j hj
        exact ⟨u, by simp [cellsAt, hj, hu], hu⟩
      refine ⟨.agg (cellsAt w g (b + of) k).toArray, run_loadVar_mid w g (b + of) t (cellsAt w g (b + of) k) d ?_ h3 (by rw [h4]) (by simp [h1, h2, hlen]), .agg _ _ (by simp [hlen]; omega) ?_⟩
      · intro j v hv
        have hj : j < k := by rw [← hlen]; exact (List.getElem?_eq_some_iff.1 hv).1
        obtain ⟨u, h5, h6⟩ := hget j hj
        rw [hv] at h5; cases h5; exact h6
      · intro j y hy
        have hj : j < k := by have := (List.getElem?_eq_some_iff.1 hy).1; simp at this; omega
        obtain ⟨u, h5, h6⟩ := hget j hj
        obtain ⟨u', h7, h8⟩ := hcell j hj
        rw [h6] at h7; cases h7
        have : cs[of + j]? = some y := by rw [← hy]; simp [List.getElem?_take, hj]
        simpa [h5] using h8 y this
    · cases hp
  · rename_i hk
    cases ht
    simp only [partOf] at hp
    obtain ⟨u, hu, hr⟩ := hc of x hp
    refine ⟨u, ?_, hr⟩
    simp [loadVar, run_isAgg_ty hk w, hu]
  · cases ht

theorem op_ld (h : Sim E β N a w σ) {t : TypeId} {y : Operand} {y' : AO} {s : Option Nat} (ho : o.op = .load t y) (ht : ldOf P t = some s) (hy : copd y = some y') {e : AV} {of : Nat}
    (hl : look σ.H (y'.ev σ.fr) = some (e, of)) (hp : partOf s e.cells of = some x) : Res E β w σ tok ((execOp a.eval o).run P w) x σ.H := by
  obtain ⟨g, b, hv, hc⟩ := look_cells h.hs (opd_rep h hy) hl
  obtain ⟨v, h1, h2⟩ := run_loadVar_rep (P := P) ht hc hp
  exact res_pure h (by simp [execOp, ho, hv, Instr.loadAt, Instr.sureAddr, h1]) h2

end ops
end Go.Am
/-! More operations that leave memory alone. -/
namespace Go.Am
set_option linter.unusedVariables false
set_option linter.unusedSimpArgs false

section ops
variable {P : Program} {E : Entry} {β : Bt} {N : Nat} {a : Act} {w : World} {σ : St} {tok : Nat} {x : AV} {H' : Heap} {o : Oper}

theorem op_nck (h : Sim E β N a w σ) {y : Operand} {y' : AO} (ho : o.op = .nilCheck y) (hy : copd y = some y') (hx : (∃ e k, y'.ev σ.fr = .pr e k) ∨ ∃ t i k, y'.ev σ.fr = .ad t i k) :
    Res E β w σ tok ((execOp a.eval o).run P w) (y'.ev σ.fr) σ.H := by
  have hr := opd_rep h hy
  rcases hx with ⟨e, k, he⟩ | ⟨t, i, k, he⟩
  · rw [he] at hr
    obtain ⟨g, b, cv, hv, _⟩ := hr.pr_inv
    exact res_pure h (v := a.eval y) (by simp [execOp, ho, hv]) (he ▸ hr)
  · rw [he] at hr
    obtain ⟨p, _, hv⟩ := hr.ad_inv
    exact res_pure h (v := a.eval y) (by simp [execOp, ho, hv]) (he ▸ hr)

theorem addr_rep (k : Nat) {β : Bt} {ok : Nat → Prop} {v : Value} : 
    (∀ e of, Rep β ok w v (.pr e of) → ∃ g b, v = .pointer (some ⟨g, b, none⟩) ∧ Rep β ok w (.pointer (some ⟨g, b + k, none⟩)) (.pr e (of + k))) ∧
    (∀ t i of, Rep β ok w v (.ad t i of) → ∃ g b, v = .pointer (some ⟨g, b, none⟩) ∧ Rep β ok w (.pointer (some ⟨g, b + k, none⟩)) (.ad t i (of + k))) := by
  constructor
  · intro e of hr
    obtain ⟨g, b, cv, hv, h1, h2, h3, h4⟩ := hr.pr_inv
    exact ⟨g, b + of, hv, by rw [Nat.add_assoc]; exact .pr e (of + k) g b cv h1 h2 h3 h4⟩
  · intro t i of hr
    obtain ⟨p, hp, hv⟩ := hr.ad_inv
    exact ⟨p.g, _, hv, by rw [Nat.add_assoc, Nat.add_assoc]; exact .ad t i (of + k) p hp⟩

theorem op_fad (h : Sim E β N a w σ) {t : TypeId} {y : Operand} {y' : AO} {n : Nat} (ho : o.op = .fieldAddr t y n) {fs : Array Field} {f : Field} (ht : P.underlying t = some (.struct fs)) (hf : fs[n]? = some f)
    {b : Bool} {s : Nat} (hs : tyOf P f.type = some (b, s)) (hs0 : s ≠ 0) (hy : copd y = some y') :
    (∀ e of, y'.ev σ.fr = .pr e of → Res E β w σ tok ((execOp a.eval o).run P w) (.pr e (of + f.offset)) σ.H) ∧
    (∀ u i of, y'.ev σ.fr = .ad u i of → Res E β w σ tok ((execOp a.eval o).run P w) (.ad u i (of + f.offset)) σ.H) := by
  have hr := opd_rep h hy
  have run : ∀ g k, (execOp (fun _ => Value.pointer (some ⟨g, k, none⟩)) o).run P w = .ok (.value (.pointer (some ⟨g, k + f.offset, none⟩))) w := by
    intro g k
    simp [execOp, ho, Instr.fieldAt, run_underlying ht, hf, Instr.sureAddr, fieldPlace, run_sizeOf_ty hs, hs0, Addr.add_lit]
  have cg : ∀ g k, a.eval y = .pointer (some ⟨g, k, none⟩) → (execOp a.eval o).run P w = .ok (.value (.pointer (some ⟨g, k + f.offset, none⟩))) w := by
    intro g k hv
    rw [← run g k]
    congr 1
    exact execOp_congr o (by simp [ho]) (by simp [ho, Op.operands, hv])
  constructor
  · intro e of he
    rw [he] at hr
    obtain ⟨g, b, hv, hr'⟩ := (addr_rep f.offset).1 e of hr
    exact res_pure h (cg g b hv) hr'
  · intro u i of he
    rw [he] at hr
    obtain ⟨g, b, hv, hr'⟩ := (addr_rep f.offset).2 u i of hr
    exact res_pure h (cg g b hv) hr'

theorem run_part {t : TypeId} {s : Option Nat} (ht : ldOf P t = some s) {vs : Array Value} {cs : List AV} {ok : Nat → Prop} (hl : vs.size = cs.length)
    (hc : ∀ (j : Nat) (y : AV), cs[j]? = some y → Rep β ok w ((vs[j]?).getD undef) y) {of : Nat} (hp : partOf s cs of = some x) : ∃ v, (part t vs of).run P w = .ok v w ∧ Rep β ok w v x := by
  unfold ldOf at ht
  split at ht
  · rename_i k hk
    cases ht
    simp only [partOf] at hp
    split at hp
    · rename_i hle
      cases hp
      refine ⟨.agg (vs.extract of (of + k)), by simp [part, run_isAgg_ty hk, run_sizeOf_ty hk], .agg _ _ (by simp; omega) ?_⟩
      intro j y hy
      have hj : j < k := by have := (List.getElem?_eq_some_iff.1 hy).1; simp at this; omega
      have h2 : cs[of + j]? = some y := by rw [← hy]; simp [List.getElem?_take, hj]
      have h3 := hc _ _ h2
      have : (vs.extract of (of + k))[j]? = vs[of + j]? := by
        rw [Array.getElem?_extract]; simp; omega
      rw [this]; exact h3
    · cases hp
  · rename_i hk
    cases ht
    simp only [partOf] at hp
    have hlt : of < vs.size := by have := (List.getElem?_eq_some_iff.1 hp).1; omega
    have h3 := hc _ _ hp
    refine ⟨vs[of], by simp [part, run_isAgg_ty hk, Array.getElem?_eq_getElem hlt], by simpa [Array.getElem?_eq_getElem hlt] using h3⟩
  · cases ht

theorem op_fld (h : Sim E β N a w σ) {t : TypeId} {y : Operand} {y' : AO} {n : Nat} (ho : o.op = .field t y n) {fs : Array Field} {f : Field} (ht : P.underlying t = some (.struct fs)) (hf : fs[n]? = some f)
    {s : Option Nat} (hs : ldOf P f.type = some s) (hy : copd y = some y') {cs : List AV} (hv : y'.ev σ.fr = .agg cs) (hp : partOf s cs f.offset = some x) :
    Res E β w σ tok ((execOp a.eval o).run P w) x σ.H := by
  have hr := opd_rep h hy
  rw [hv] at hr
  obtain ⟨vs, he, hl, hc⟩ := hr.agg_inv
  obtain ⟨v, h1, h2⟩ := run_part (P := P) hs hl hc hp
  exact res_pure h (by simp [execOp, ho, Instr.field, run_underlying ht, hf, he, asAgg, h1]) h2

theorem op_iad_sl (h : Sim E β N a w σ) {t e : TypeId} {y z : Operand} {y' z' : AO} (ho : o.op = .indexAddr t y z) (ht : P.underlying t = some (.slice e)) {b : Bool} {s : Nat} (hs : tyOf P e = some (b, s))
    (hy : copd y = some y') (hz : copd z = some z') {k : IntKind} {n : Int} (hzv : z'.ev σ.fr = .i k n) {tg : Option Nat} {xs : List AV} (hyv : y'.ev σ.fr = .sl tg xs) (hn : 0 ≤ n) {el : AV}
    (he : xs[n.toNat]? = some el) (hsz : el.cells.length = s) : Res E β w σ tok ((execOp a.eval o).run P w) (.pr el 0) σ.H := by
  have hr := hyv ▸ opd_rep h hy
  have hi := (hzv ▸ opd_rep h hz : Rep _ _ _ _ (.i k n)).i_inv
  obtain ⟨ad, c, hv, hc, hx⟩ := hr.sl_inv
  have hlt : n.toNat < xs.length := (List.getElem?_eq_some_iff.1 he).1
  obtain ⟨g, of, sz, cv, rfl, hg, hgl, _, hss, hm, hrr⟩ := hx (by intro e; subst e; simp at hlt)
  obtain rfl : sz = s := by rw [← hsz]; exact (hss _ _ he).symm
  refine res_pure h (v := .pointer (some ⟨g, of + n.toNat * sz, none⟩)) ?_ ?_
  · have : n < (xs.length : Int) := by omega
    simp [execOp, ho, hv, hi, Instr.indexAt, asIntOf, run_underlying ht, hn, this, run_sizeOf_ty hs, Addr.add_lit]
  · exact .pr el 0 g (of + n.toNat * sz) (cv n.toNat) hg hgl (fun j hj => hm _ _ _ he (by omega)) (fun j y hj => hrr _ _ _ _ he hj)

theorem op_iad_rf (h : Sim E β N a w σ) {t e : TypeId} {y z : Operand} {y' z' : AO} (ho : o.op = .indexAddr t y z) (ht : P.underlying t = some (.slice e)) {b : Bool} {sz : Nat} (hs : tyOf P e = some (b, sz))
    (hy : copd y = some y') (hz : copd z = some z') {k : IntKind} {n : Int} (hzv : z'.ev σ.fr = .i k n) {u s m : Nat} (hyv : y'.ev σ.fr = .rf u s m) (hn : 0 ≤ n) (hm : n < m) {zz : Nat} {es : List AV} (hes : σ.H u = some (zz, es)) {el : AV}
    (he : es[s + n.toNat]? = some el) (hsz : el.cells.length = sz) : Res E β w σ tok ((execOp a.eval o).run P w) (.ad u (s + n.toNat) 0) σ.H := by
  have hr := hyv ▸ opd_rep h hy
  have hi := (hzv ▸ opd_rep h hz : Rep _ _ _ _ (.i k n)).i_inv
  obtain ⟨p, ad, c, hp, hv, ha, hc, h0⟩ := hr.rf_inv
  obtain ⟨p', hp', _, _, _, hx⟩ := h.hs.dom _ _ hes
  rw [hp] at hp'; cases hp'
  have hpz : p.sz = sz := by rw [← hsz]; exact ((hx _ _ he).1).symm
  have hm0 : m ≠ 0 := by omega
  have hadr := ha (.inl hm0)
  subst hadr
  refine res_pure h (v := .pointer (some ⟨p.g, p.b + s * p.sz + n.toNat * sz, none⟩)) ?_ ?_
  · simp [execOp, ho, hv, hi, Instr.indexAt, asIntOf, run_underlying ht, hn, hm, run_sizeOf_ty hs, Addr.add_lit]
  · have : p.b + s * p.sz + n.toNat * sz = p.b + ((s + n.toNat) * p.sz + 0) := by rw [hpz, Nat.add_mul]; omega
    rw [this]
    exact .ad u (s + n.toNat) 0 p hp

theorem op_aad (h : Sim E β N a w σ) {t e : TypeId} {y z : Operand} {y' z' : AO} {n : Nat} (ho : o.op = .indexAddr t y z) (ht : P.underlying t = some (.array n e)) {b : Bool} {sz : Nat} (hs : tyOf P e = some (b, sz))
    (hy : copd y = some y') (hz : copd z = some z') {k : IntKind} {j : Int} (hzv : z'.ev σ.fr = .i k j) (hj : 0 ≤ j) (hjn : j < n) :
    (∀ e of, y'.ev σ.fr = .pr e of → Res E β w σ tok ((execOp a.eval o).run P w) (.pr e (of + j.toNat * sz)) σ.H) ∧
    (∀ u i of, y'.ev σ.fr = .ad u i of → Res E β w σ tok ((execOp a.eval o).run P w) (.ad u i (of + j.toNat * sz)) σ.H) := by
  have hr := opd_rep h hy
  have hi := (hzv ▸ opd_rep h hz : Rep _ _ _ _ (.i k j)).i_inv
  have cg : ∀ g q, a.eval y = .pointer (some ⟨g, q, none⟩) → (execOp a.eval o).run P w = .ok (.value (.pointer (some ⟨g, q + j.toNat * sz, none⟩))) w := by
    intro g q hv
    simp [execOp, ho, hv, hi, Instr.indexAt, asIntOf, run_underlying ht, Instr.sureAddr, hj, hjn, run_sizeOf_ty hs, Addr.add_lit]
  constructor
  · intro e of he
    rw [he] at hr
    obtain ⟨g, b, hv, hr'⟩ := (addr_rep (j.toNat * sz)).1 e of hr
    exact res_pure h (cg g b hv) hr'
  · intro u i of he
    rw [he] at hr
    obtain ⟨g, b, hv, hr'⟩ := (addr_rep (j.toNat * sz)).2 u i of hr
    exact res_pure h (cg g b hv) hr'

theorem op_sidx (h : Sim E β N a w σ) {t : TypeId} {y z : Operand} {y' z' : AO} (ho : o.op = .index t y z) (ht : P.underlying t = some .string)
    (hy : copd y = some y') (hz : copd z = some z') {k : IntKind} {n : Int} (hzv : z'.ev σ.fr = .i k n) {s : ByteArray} (hyv : y'.ev σ.fr = .s s) (hn : 0 ≤ n) {c : UInt8} (hc : s[n.toNat]? = some c) :
    Res E β w σ tok ((execOp a.eval o).run P w) (.i .u8 c.toNat) σ.H := by
  have hr := (hyv ▸ opd_rep h hy : Rep _ _ _ _ (.s s)).s_inv
  have hi := (hzv ▸ opd_rep h hz : Rep _ _ _ _ (.i k n)).i_inv
  exact res_pure h (by simp [execOp, ho, hr, hi, Instr.index, asIntOf, run_underlying ht, hn, hc]) (.i _ _)

theorem op_not (h : Sim E β N a w σ) {t : TypeId} {y : Operand} {y' : AO} (ho : o.op = .unOp .not t y) (hy : copd y = some y') {b : Bool} (hv : y'.ev σ.fr = .b b) :
    Res E β w σ tok ((execOp a.eval o).run P w) (.b (!b)) σ.H := by
  have hr := (hv ▸ opd_rep h hy : Rep _ _ _ _ (.b b)).b_inv
  exact res_pure h (by simp [execOp, ho, hr, Op.unary]) (.b _)

theorem op_neg (h : Sim E β N a w σ) {t : TypeId} {y : Operand} {y' : AO} (ho : o.op = .unOp .neg t y) (hy : copd y = some y') {k : IntKind} {n : Int} (hv : y'.ev σ.fr = .i k n) :
    Res E β w σ tok ((execOp a.eval o).run P w) (.i k (k.wrap (0 - n))) σ.H := by
  have hr := (hv ▸ opd_rep h hy : Rep _ _ _ _ (.i k n)).i_inv
  exact res_pure h (by simp [execOp, ho, hr, Op.unary, Op.intArith]) (.i _ _)

theorem op_cvt (h : Sim E β N a w σ) {s d : TypeId} {y : Operand} {y' : AO} (ho : o.op = .convert s d y) {k0 k : IntKind} (hs : P.underlying s = some (.int k0)) (hd : P.underlying d = some (.int k)) (hy : copd y = some y')
    {k1 : IntKind} {n : Int} (hv : y'.ev σ.fr = .i k1 n) : Res E β w σ tok ((execOp a.eval o).run P w) (.i k (k.wrap n)) σ.H := by
  have hr := (hv ▸ opd_rep h hy : Rep _ _ _ _ (.i k1 n)).i_inv
  exact res_pure h (by simp [execOp, ho, hr, convert, run_underlying hs, run_underlying hd, Conv.intToInt]) (.i _ _)

theorem op_ext (h : Sim E β N a w σ) {y : Operand} {y' : AO} {i : Nat} (ho : o.op = .extract y i) (hy : copd y = some y') {vs : List AV} (hv : y'.ev σ.fr = .tup vs) (hx : vs[i]? = some x) :
    Res E β w σ tok ((execOp a.eval o).run P w) x σ.H := by
  obtain ⟨us, he, hl, hc⟩ := (hv ▸ opd_rep h hy : Rep _ _ _ _ (.tup vs)).tup_inv
  have hlt : i < us.size := by have := (List.getElem?_eq_some_iff.1 hx).1; omega
  have hr := hc _ _ hx
  rw [Array.getElem?_eq_getElem hlt] at hr
  exact res_pure h (v := us[i]) (by simp [execOp, ho, he, Instr.extract, Array.getElem?_eq_getElem hlt]) hr

theorem op_mkf (h : Sim E β N a w σ) {f : Nat} {first caps : Array Operand} {cs : List AO} (ho : o.op = .makeFunc (.func f) first caps) (hf : first.size = 0) (hc : copds caps.toList = some cs) :
    Res E β w σ tok ((execOp a.eval o).run P w) (.fn f (cs.map (·.ev σ.fr))) σ.H := by
  obtain ⟨hl, hy⟩ := opds_rep h hc
  have h0 : first = #[] := Array.eq_empty_of_size_eq_zero hf
  subst h0
  refine res_pure h (v := .func (.func f) #[] (caps.map a.eval)) (by simp [execOp, ho, Instr.makeFunc]) (.fn f _ _ (by simpa using hl) ?_)
  intro j y hj
  simp only [List.getElem?_map, Option.map_eq_some_iff] at hj
  obtain ⟨z, hz, rfl⟩ := hj
  obtain ⟨u, hu, hr⟩ := hy j z hz
  simp at hu
  simpa [hu] using hr

theorem op_len (h : Sim E β N a w σ) {t : TypeId} {y : Operand} {y' : AO} {c : Call} (ho : o.op = .call c) (hcal : c.callee = .builtin .len) (hargs : c.args.toList = [y]) (hts : c.argTypes.toList = [t]) (hy : copd y = some y') :
    (∀ e, P.underlying t = some (.slice e) → y'.ev σ.fr = .nl → Res E β w σ tok ((execOp a.eval o).run P w) (.i .i64 0) σ.H) ∧
    (∀ e tg xs, P.underlying t = some (.slice e) → y'.ev σ.fr = .sl tg xs → Res E β w σ tok ((execOp a.eval o).run P w) (.i .i64 xs.length) σ.H) ∧
    (∀ e u s m, P.underlying t = some (.slice e) → y'.ev σ.fr = .rf u s m → Res E β w σ tok ((execOp a.eval o).run P w) (.i .i64 m) σ.H) ∧
    (∀ s, P.underlying t = some .string → y'.ev σ.fr = .s s → Res E β w σ tok ((execOp a.eval o).run P w) (.i .i64 s.size) σ.H) := by
  have hr := opd_rep h hy
  have e1 : c.args = #[y] := by rw [← hargs]
  have e2 : c.argTypes = #[t] := by rw [← hts]
  refine ⟨?_, ?_, ?_, ?_⟩
  · intro e ht hv
    have hn := (hv ▸ hr : Rep _ _ _ _ .nl).nl_inv
    exact res_pure h (by simp [execOp, ho, resolve, hcal, e1, e2, invoke, builtin, Builtin.len_, run_underlying ht, hn, goInt]) (.i _ _)
  · intro e tg xs ht hv
    obtain ⟨ad, cp, hn, _⟩ := (hv ▸ hr : Rep _ _ _ _ (.sl tg xs)).sl_inv
    exact res_pure h (by simp [execOp, ho, resolve, hcal, e1, e2, invoke, builtin, Builtin.len_, run_underlying ht, hn, goInt]) (.i _ _)
  · intro e u s m ht hv
    obtain ⟨p, ad, cp, _, hn, _⟩ := (hv ▸ hr : Rep _ _ _ _ (.rf u s m)).rf_inv
    exact res_pure h (by simp [execOp, ho, resolve, hcal, e1, e2, invoke, builtin, Builtin.len_, run_underlying ht, hn, goInt]) (.i _ _)
  · intro s ht hv
    have hn := (hv ▸ hr : Rep _ _ _ _ (.s s)).s_inv
    exact res_pure h (by simp [execOp, ho, resolve, hcal, e1, e2, invoke, builtin, Builtin.len_, run_underlying ht, hn, goInt]) (.i _ _)

end ops
end Go.Am
/-! Operators and slice expressions. -/
namespace Go.Am
set_option linter.unusedVariables false
set_option linter.unusedSimpArgs false

section ops
variable {P : Program} {E : Entry} {β : Bt} {N : Nat} {a : Act} {w : World} {σ : St} {tok : Nat} {x : AV} {H' : Heap} {o : Oper}

theorem run_eqGuard_plain (op : BinOp) (t : TypeId) (y z : Operand) (u v : Value) (h : (∀ cs, u ≠ .agg cs) ∧ u ≠ .nilIface) : eqGuard op t y z u v = pure () := by
  obtain ⟨h1, h2⟩ := h
  cases op <;> cases u <;> simp_all [eqGuard] <;> rfl

theorem r_quo (k : IntKind) (m n : Int) (hn : n ≠ 0) : (Op.intDiv .quo k m n).run P w = .ok (.int k (k.wrap (m.tdiv n))) w := by simp [Op.intDiv, hn]
theorem r_rem (k : IntKind) (m n : Int) (hn : n ≠ 0) : (Op.intDiv .rem k m n).run P w = .ok (.int k (m.tmod n)) w := by simp [Op.intDiv, hn]
theorem r_shr (k k' : IntKind) (m n : Int) (hn : ¬ n < 0) : (Op.shift .shr k m k' n).run P w = .ok (.int k (m.fdiv (2 ^ min n.toNat k.bits))) w := by simp [Op.shift, hn]
theorem r_and (k : IntKind) (m n : Int) : (Op.intBits .and k m n).run P w = .ok (.int k (k.wrap (BitVec.ofInt k.bits m &&& BitVec.ofInt k.bits n).toNat)) w := rfl
theorem r_or (k : IntKind) (m n : Int) : (Op.intBits .or k m n).run P w = .ok (.int k (k.wrap (BitVec.ofInt k.bits m ||| BitVec.ofInt k.bits n).toNat)) w := rfl
theorem r_xor (k : IntKind) (m n : Int) : (Op.intBits .xor k m n).run P w = .ok (.int k (k.wrap (BitVec.ofInt k.bits m ^^^ BitVec.ofInt k.bits n).toNat)) w := rfl

theorem op_bin (h : Sim E β N a w σ) {op : BinOp} {t t2 : TypeId} {y z : Operand} {y' z' : AO} (ho : o.op = .binOp op t y z t2) (hy : copd y = some y') (hz : copd z = some z')
    (hb : binop op (y'.ev σ.fr) (z'.ev σ.fr) = some x) : Res E β w σ tok ((execOp a.eval o).run P w) x σ.H := by
  have hry := opd_rep h hy
  have hrz := opd_rep h hz
  generalize y'.ev σ.fr = p at hb hry
  generalize z'.ev σ.fr = q at hb hrz
  unfold binop at hb
  split at hb
  · rename_i k m k' n
    have h1 := hry.i_inv
    have h2 := hrz.i_inv
    have hg : ∀ v, eqGuard op t y z (.int k m) v = pure () := fun v => run_eqGuard_plain op t y z _ v (by simp)
    cases op <;> simp only [] at hb <;> first
      | (cases hb; done)
      | (split at hb <;> first | (cases hb; done) | skip)
    all_goals (cases hb)
    all_goals (try obtain ⟨rfl, hne⟩ := ‹_ = _ ∧ _›)
    all_goals (try subst k')
    all_goals first
      | (refine res_pure h ?_ (.b _); simp [execOp, ho, hg, h1, h2, binOp, Op.intCmp]; done)
      | (refine res_pure h ?_ (.i _ _); simp [execOp, ho, hg, h1, h2, binOp, Op.intArith]; done)
      | (refine res_pure h ?_ (.i _ _); simp [execOp, ho, hg, h1, h2, binOp, r_quo (P := P) (w := w) k m n hne]; done)
      | (refine res_pure h ?_ (.i _ _); simp [execOp, ho, hg, h1, h2, binOp, r_rem (P := P) (w := w) k m n hne]; done)
      | (refine res_pure h ?_ (.i _ _); simp only [execOp, ho, hg, h1, h2, binOp, Sem.run_bind, Sem.run_pure, Result.andThen_ok, r_and (P := P) (w := w) k m n, if_false, ne_eq, not_true]; done)
      | (refine res_pure h ?_ (.i _ _); simp only [execOp, ho, hg, h1, h2, binOp, Sem.run_bind, Sem.run_pure, Result.andThen_ok, r_or (P := P) (w := w) k m n, if_false, ne_eq, not_true]; done)
      | (refine res_pure h ?_ (.i _ _); simp only [execOp, ho, hg, h1, h2, binOp, Sem.run_bind, Sem.run_pure, Result.andThen_ok, r_xor (P := P) (w := w) k m n, if_false, ne_eq, not_true]; done)
      | (refine res_pure h ?_ (.i _ _); simp only [execOp, ho, hg, h1, h2, binOp, Sem.run_bind, Sem.run_pure, Result.andThen_ok, r_shr (P := P) (w := w) k k' m n ‹¬ _ < _›]; done)
  · rename_i m n
    have h1 := hry.s_inv
    have h2 := hrz.s_inv
    have hg : ∀ v, eqGuard op t y z (.string m) v = pure () := fun v => run_eqGuard_plain op t y z _ v (by simp)
    cases op <;> simp only [] at hb <;> first | (cases hb; done) | skip
    all_goals (cases hb)
    all_goals exact res_pure h (by simp [execOp, ho, hg, h1, h2, binOp, Op.stringOp]) (.b _)
  · cases hb

theorem op_beq (h : Sim E β N a w σ) {ne : Bool} {t t2 : TypeId} {y z : Operand} {y' z' : AO} (ho : o.op = .binOp (if ne then .neq else .eql) t y z t2) (ht : isBoolT P t = true) (hy : copd y = some y') (hz : copd z = some z')
    {p q : Bool} (hp : y'.ev σ.fr = .b p) (hq : z'.ev σ.fr = .b q) : Res E β w σ tok ((execOp a.eval o).run P w) (.b (if ne then !(p == q) else p == q)) σ.H := by
  have h1 := (hp ▸ opd_rep h hy : Rep _ _ _ _ (.b p)).b_inv
  have h2 := (hq ▸ opd_rep h hz : Rep _ _ _ _ (.b q)).b_inv
  have hu : P.underlying t = some .bool := by
    unfold isBoolT at ht
    split at ht
    · assumption
    · cases ht
  have hg : ∀ op v, eqGuard op t y z (.bool p) v = pure () := fun op v => run_eqGuard_plain op t y z _ v (by simp)
  have he : (Op.equal t (.bool p) (.bool q)).run P w = .ok (p == q) w := by
    show (Op.equalIn (9999 + 1) t (.bool p) (.bool q)).run P w = _
    unfold Op.equalIn
    simp [run_underlying hu]
  cases ne
  · exact res_pure h (by simp at ho; simp [execOp, ho, hg, h1, h2, binOp, he]) (.b _)
  · exact res_pure h (by simp at ho; simp [execOp, ho, hg, h1, h2, binOp, he]) (.b _)

theorem bound_run {v : Value} {y : AV} {m d r : Nat} {ok : Nat → Prop} {code : BoundsCode} (hb : bound m d (some y) = some r) (hv : Rep β ok w v y) :
    (Instr.sliceBound v m code).run P w = .ok r w ∧ r ≤ m := by
  unfold bound at hb
  split at hb
  · rename_i h; cases h
  · rename_i h
    cases h
    split at hb
    · rename_i hc
      cases hb
      have h1 := hv.i_inv
      have : (0 : Int) ≤ _ := hc.1
      refine ⟨by simp [Instr.sliceBound, h1, asIntOf, hc.1, hc.2], by omega⟩
    · cases hb
  · cases hb

theorem bounds_run {n cp : Nat} {lo hi : Option Value} {lo' hi' : Option AV} {ok : Nat → Prop} {hh l : Nat} (h1 : bound n n hi' = some hh) (h2 : bound hh 0 lo' = some l) (hn : n ≤ cp)
    (r1 : ∀ v, hi = some v → ∃ y, hi' = some y ∧ Rep β ok w v y) (n1 : hi = none → hi' = none) (r2 : ∀ v, lo = some v → ∃ y, lo' = some y ∧ Rep β ok w v y) (n2 : lo = none → lo' = none) :
    (Instr.sliceBounds true n cp lo hi none).run P w = .ok (l, hh, cp) w ∧ l ≤ hh ∧ hh ≤ n := by
  have hbnd : ∀ {v : Value} {y : AV} {m d r m' : Nat}, bound m d (some y) = some r → Rep β ok w v y → m ≤ m' → ∀ code, (Instr.sliceBound v m' code).run P w = .ok r w ∧ r ≤ m := by
    intro v y m d r m' hb hv hm code
    unfold bound at hb
    split at hb
    · rename_i h; cases h
    · rename_i h
      cases h
      split at hb
      · rename_i hc
        cases hb
        have h1 := hv.i_inv
        have h3 : (_ : Int) ≤ (m' : Int) := Int.le_trans hc.2 (by omega)
        refine ⟨by simp [Instr.sliceBound, h1, asIntOf, hc.1, h3], by have := hc.2; omega⟩
      · cases hb
    · cases hb
  have hH : ∃ hv, (match hi with | some v => Instr.sliceBound v cp (if true = true then BoundsCode.sliceAcap else .sliceAlen) | none => (pure n : Sem Nat)).run P w = .ok hh w ∧ hh ≤ n ∧ hv = hh := by
    cases hi with
    | none =>
      have := n1 rfl; subst this
      simp [bound] at h1; subst h1
      exact ⟨_, rfl, Nat.le_refl _, rfl⟩
    | some v =>
      obtain ⟨y, rfl, hv⟩ := r1 v rfl
      have := hbnd h1 hv hn .sliceAcap
      exact ⟨_, this.1, this.2, rfl⟩
  obtain ⟨_, hH1, hH2, _⟩ := hH
  have hL : (match lo with | some v => Instr.sliceBound v hh (if (none : Option Value).isSome = true then BoundsCode.slice3C else .sliceB) | none => (pure 0 : Sem Nat)).run P w = .ok l w ∧ l ≤ hh := by
    cases lo with
    | none =>
      have := n2 rfl; subst this
      simp [bound] at h2; subst h2
      exact ⟨rfl, Nat.zero_le _⟩
    | some v =>
      obtain ⟨y, rfl, hv⟩ := r2 v rfl
      exact hbnd h2 hv (Nat.le_refl _) .sliceB
  refine ⟨?_, hL.2, hH2⟩
  cases hi <;> cases lo <;> simp_all [Instr.sliceBounds]

theorem copdo_rep (h : Sim E β N a w σ) {z : Option Operand} {z' : Option AO} (hc : copdo z = some z') :
    (∀ v, z.map a.eval = some v → ∃ y, z'.map (·.ev σ.fr) = some y ∧ Rep β (okB E.X β σ.H) w v y) ∧ (z.map a.eval = none → z'.map (·.ev σ.fr) = none) := by
  cases z with
  | none => cases hc; exact ⟨(fun v hv => by cases hv), fun _ => rfl⟩
  | some q =>
    simp only [copdo] at hc
    cases hq : copd q with
    | none => rw [hq] at hc; cases hc
    | some r => rw [hq] at hc; cases hc; exact ⟨(fun v hv => by cases hv; exact ⟨_, rfl, opd_rep h hq⟩), (fun hv => by cases hv)⟩

theorem op_slc (h : Sim E β N a w σ) {t e : TypeId} {y : Operand} {y' : AO} {lo hi : Option Operand} {lo' hi' : Option AO} (ho : o.op = .slice t y lo hi none) (ht : P.underlying t = some (.slice e))
    {b : Bool} {s : Nat} (hs : tyOf P e = some (b, s)) (hy : copd y = some y') (hlo : copdo lo = some lo') (hhi : copdo hi = some hi')
    (hr : (AOp.slc s y' lo' hi').run σ.fr σ.H tok = some (x, H')) : Res E β w σ tok ((execOp a.eval o).run P w) x H' := by
  have hv := opd_rep h hy
  obtain ⟨l1, l2⟩ := copdo_rep h hlo
  obtain ⟨h1, h2⟩ := copdo_rep h hhi
  have run : ∀ (ad : Option Addr) (n cp l hh : Nat), a.eval y = .slice ad n cp → (Instr.sliceBounds true n cp (lo.map a.eval) (hi.map a.eval) none).run P w = .ok (l, hh, cp) w →
      (execOp a.eval o).run P w = .ok (.value (.slice (if cp = l then ad else ad.map (·.add (l * s))) (hh - l) (cp - l))) w := by
    intro ad n cp l hh hva hb
    simp [execOp, ho, Instr.sliceAt, Instr.slice, run_underlying ht, hva, hb, run_sizeOf_ty hs]
  simp only [AOp.run] at hr
  split at hr
  · rename_i hyv
    split at hr
    · rename_i hh hb1
      split at hr
      · rename_i l hb2
        cases hr
        have hn := (hyv ▸ hv : Rep _ _ _ _ .nl).nl_inv
        obtain ⟨hb, hl1, hl2⟩ := bounds_run (P := P) (w := w) hb1 hb2 (Nat.le_refl 0) h1 h2 l1 l2
        obtain rfl : hh = 0 := by omega
        obtain rfl : l = 0 := by omega
        exact res_pure h (run _ _ _ _ _ hn hb) (by simpa using Rep.nl)
      · cases hr
    · cases hr
  · rename_i tg xs hyv
    split at hr
    · rename_i hh hb1
      split at hr
      · rename_i l hb2
        split at hr
        · rename_i hall
          cases hr
          obtain ⟨ad, c, hn, hc, hx⟩ := (hyv ▸ hv : Rep _ _ _ _ (.sl tg xs)).sl_inv
          obtain ⟨hb, hl1, hl2⟩ := bounds_run (P := P) (w := w) hb1 hb2 hc h1 h2 l1 l2
          have hlen : ((xs.take hh).drop l).length = hh - l := by simp; omega
          refine res_pure h (run _ _ _ _ _ hn hb) ?_
          by_cases h0 : hh - l = 0
          · have : (xs.take hh).drop l = [] := List.length_eq_zero_iff.1 (by omega)
            rw [this, h0]; exact .sl0 _ _ _
          · have hxne : xs ≠ [] := by intro e; subst e; simp at hl2; omega
            obtain ⟨g, of, sz, cv, rfl, hg, hgl, htg, hss, hm, hrr⟩ := hx hxne
            have hget : ∀ i z, ((xs.take hh).drop l)[i]? = some z → xs[l + i]? = some z := by
              intro i z hz
              rw [List.getElem?_drop, List.getElem?_take] at hz
              split at hz
              · exact hz
              · cases hz
            have hsz : sz = s := by
              have h00 : 0 < ((xs.take hh).drop l).length := by omega
              have h01 := hget 0 _ (List.getElem?_eq_getElem h00)
              have h02 := hss _ _ h01
              have h03 := (List.all_eq_true.1 hall) _ (List.getElem_mem h00)
              simp only [beq_iff_eq] at h03
              omega
            subst hsz
            have hne : c ≠ l := by omega
            rw [if_neg hne, ← hlen]
            simp only [Option.map_some, Addr.add_lit]
            refine .sl g (of + l * sz) (c - l) sz tg _ (fun i j => cv (l + i) j) (by omega) hg hgl htg (fun i z hz => hss _ _ (hget i z hz)) ?_ (fun i z j q hz hq => hrr _ _ _ _ (hget i z hz) hq)
            intro i z j hz hj
            rw [← hm _ _ _ (hget i z hz) hj]
            congr 2
            rw [Nat.add_mul]; omega
        · cases hr
      · cases hr
    · cases hr
  · rename_i u st m hyv
    split at hr
    · rename_i zz es hes
      split at hr
      · rename_i hall
        split at hr
        · rename_i hh hb1
          split at hr
          · rename_i l hb2
            cases hr
            obtain ⟨p, ad, c, hp, hn, ha, hc, h0⟩ := (hyv ▸ hv : Rep _ _ _ _ (.rf u st m)).rf_inv
            obtain ⟨hb, hl1, hl2⟩ := bounds_run (P := P) (w := w) hb1 hb2 hc h1 h2 l1 l2
            refine res_pure h (run _ _ _ _ _ hn hb) ?_
            refine .rf u (st + l) (hh - l) _ _ p hp ?_ (by omega) ?_
            · intro hcase
              by_cases hz : hh - l = 0
              · have hst : st + l = 0 := by rcases hcase with h | h <;> omega
                obtain rfl : st = 0 := by omega
                obtain rfl : l = 0 := by omega
                have had := ha (.inr rfl)
                subst had
                split <;> simp [Addr.add_lit]
              · have hm0 : m ≠ 0 := by omega
                have had := ha (.inl hm0)
                subst had
                rw [if_neg (by omega)]
                simp only [Option.map_some, Addr.add_lit]
                obtain ⟨p', hp', _, hz', _, hxx⟩ := h.hs.dom _ _ hes
                rw [hp] at hp'; cases hp'
                have hsz : p.sz = s := by
                  rcases hz' with hz' | hz'
                  · exact hz'.2.trans hall.2.1
                  · exact absurd (hall.2.1.symm.trans hz') hall.2.2
                rw [hsz, Nat.add_mul, Nat.add_assoc]
            · intro hf hst
              have := h0 hf (by omega)
              omega
          · cases hr
        · cases hr
      · cases hr
    · cases hr
  · cases hr

end ops
end Go.Am
/-! The operations that make or write memory. -/
namespace Go.Am
set_option linter.unusedVariables false
set_option linter.unusedSimpArgs false

/-- Values laid over an array from a place on. -/
def splice (cur : Array Value) (o : Nat) : List Value → Array Value
  | [] => cur
  | v :: r => splice (cur.setIfInBounds o v) (o + 1) r

theorem splice_size : ∀ (vs : List Value) (cur : Array Value) (o : Nat), (splice cur o vs).size = cur.size
  | [], _, _ => rfl
  | v :: r, cur, o => by rw [splice, splice_size r]; simp

theorem splice_get : ∀ (vs : List Value) (cur : Array Value) (o k : Nat), (splice cur o vs)[k]? = if o ≤ k ∧ k < o + vs.length ∧ k < cur.size then vs[k - o]? else cur[k]?
  | [], cur, o, k => by simp only [splice, List.length_nil]; rw [if_neg (by omega)]
  | v :: r, cur, o, k => by
    rw [splice, splice_get r]
    simp only [Array.size_setIfInBounds, List.length_cons]
    by_cases h : o = k
    · subst h
      rw [if_neg (by omega)]
      by_cases hk : o < cur.size
      · rw [if_pos (by omega)]; simp [hk]
      · rw [if_neg (by omega), Array.getElem?_eq_none (by simp; omega), Array.getElem?_eq_none (by omega)]
    · rw [Array.getElem?_setIfInBounds_ne h]
      by_cases h2 : o + 1 ≤ k ∧ k < o + 1 + r.length ∧ k < cur.size
      · rw [if_pos h2, if_pos (by omega)]
        have : k - o = (k - (o + 1)) + 1 := by omega
        rw [this]; simp
      · rw [if_neg h2, if_neg (by omega)]

theorem foldl_splice : ∀ (vs : List Value) (s o : Nat) (cur : Array Value), (vs.zipIdx s).foldl (fun cs (p : Value × Nat) => cs.setIfInBounds (o + p.2) p.1) cur = splice cur (o + s) vs
  | [], _, _, _ => rfl
  | v :: r, s, o, cur => by
    simp only [List.zipIdx_cons, List.foldl_cons, splice]
    rw [foldl_splice r (s + 1) o, Nat.add_assoc]

theorem fill_step (place : Nat → Option (Nat × Nat)) (cells : Array Value) (i : Nat) (v : Value) (rest : List (Nat × Value)) {off size : Nat} (hp : place i = some (off, size))
    (h1 : v.cells.size = size) (h2 : off + v.cells.size ≤ cells.size) : Instr.fill place cells ((i, v) :: rest) = Instr.fill place (splice cells off v.cells.toList) rest := by
  simp only [Instr.fill, hp]
  rw [if_neg (by simp; omega)]
  congr 1
  rw [← Array.foldl_toList, Array.toList_zipIdx]
  simpa using foldl_splice v.cells.toList 0 off cells

/-- Cells that stand for cells. -/
def ARep (β : Bt) (ok : Nat → Prop) (w : World) (vs : Array Value) (cs : List AV) : Prop :=
  vs.size = cs.length ∧ ∀ (j : Nat) (y : AV), cs[j]? = some y → Rep β ok w ((vs[j]?).getD undef) y

theorem cells_rep {β : Bt} {ok : Nat → Prop} {w : World} {v : Value} {x : AV} (h : Rep β ok w v x) (hx : x ≠ .top) : ARep β ok w v.cells x.cells := by
  have one : ∀ {v : Value} {x : AV}, Rep β ok w v x → v.cells = #[v] → x.cells = [x] → ARep β ok w v.cells x.cells := by
    intro v x h h1 h2
    rw [h1, h2]
    refine ⟨rfl, fun j y hj => ?_⟩
    cases j with
    | zero => simp at hj; subst hj; simpa using h
    | succ j => simp at hj
  cases h with
  | top v => exact absurd rfl hx
  | b x => exact one (.b x) rfl rfl
  | i k m => exact one (.i k m) rfl rfl
  | s x => exact one (.s x) rfl rfl
  | agg vs cs hl h => exact ⟨hl, h⟩
  | tup vs cs hl h => exact one (.tup vs cs hl h) rfl rfl
  | nl => exact one .nl rfl rfl
  | sl0 t a c => exact one (.sl0 t a c) rfl rfl
  | sl g o c sz t xs cv a1 a2 a3 a4 a5 a6 a7 => exact one (.sl g o c sz t xs cv a1 a2 a3 a4 a5 a6 a7) rfl rfl
  | rf t s m a c p a1 a2 a3 a4 => exact one (.rf t s m a c p a1 a2 a3 a4) rfl rfl
  | pr e o g b cv a1 a2 a3 a4 => exact one (.pr e o g b cv a1 a2 a3 a4) rfl rfl
  | ad t i o p hp => exact one (.ad t i o p hp) rfl rfl
  | fn f caps vs hl h => exact one (.fn f caps vs hl h) rfl rfl

theorem fillOne_get (cs : List AV) (o : Nat) (vs : List AV) (h : o + vs.length ≤ cs.length) (k : Nat) :
    (fillOne cs o vs)[k]? = if o ≤ k ∧ k < o + vs.length then vs[k - o]? else cs[k]? := by
  unfold fillOne
  by_cases h1 : k < o
  · rw [if_neg (by omega), List.append_assoc, List.getElem?_append_left (by simp; omega)]
    simp [List.getElem?_take, h1]
  · by_cases h2 : k < o + vs.length
    · rw [if_pos (by omega), List.append_assoc, List.getElem?_append_right (by simp; omega), List.getElem?_append_left (by simp; omega)]
      congr 1; simp; omega
    · rw [if_neg (by omega), List.append_assoc, List.getElem?_append_right (by simp; omega), List.getElem?_append_right (by simp; omega), List.getElem?_drop]
      congr 1; simp; omega

theorem fillOne_length (cs : List AV) (o : Nat) (vs : List AV) (h : o + vs.length ≤ cs.length) : (fillOne cs o vs).length = cs.length := by
  simp [fillOne]; omega

theorem ARep.splice {β : Bt} {ok : Nat → Prop} {w : World} {us vs : Array Value} {cs ds : List AV} (h : ARep β ok w us cs) (h2 : ARep β ok w vs ds) {o : Nat} (hl : o + ds.length ≤ cs.length) :
    ARep β ok w (splice us o vs.toList) (fillOne cs o ds) := by
  refine ⟨by rw [splice_size, fillOne_length _ _ _ hl]; exact h.1, fun j y hj => ?_⟩
  rw [fillOne_get _ _ _ hl] at hj
  rw [splice_get]
  have e1 := h.1
  have e2 := h2.1
  by_cases hc : o ≤ j ∧ j < o + ds.length
  · rw [if_pos hc] at hj
    rw [if_pos (by simp; omega)]
    simpa using h2.2 _ _ hj
  · rw [if_neg hc] at hj
    rw [if_neg (by simp; omega)]
    exact h.2 _ _ hj

section ops
variable {P : Program} {E : Entry} {β : Bt} {N : Nat} {a : Act} {w w' : World} {σ : St} {tok : Nat} {x : AV} {H' : Heap} {o : Oper}

/-- A new block is what an operation makes. -/
theorem res_grew (h : Sim E β N a w σ) (hf : β tok = none) (htok : tok < σ.n) (hE : E.n ≤ tok) {c : Array Value} {e : TypeId} (hg : Grew w w' c e) {sz cap : Nat} {es : List AV} (hl : es.length ≤ cap)
    (hcs : c.size = cap * sz) (hm : cap ≤ maxLen) (hc : CellsRep β (okB E.X β σ.H) w c sz es) {v : Value} {r : Result Next} (hr : r = .ok (.value v) w')
    (hv : (v = .pointer (some ⟨w.heap.size, 0, none⟩) ∧ x = .ad tok 0 0) ∨ (∃ n, v = .slice (some ⟨w.heap.size, 0, none⟩) n cap ∧ x = .rf tok 0 n ∧ n ≤ cap)) :
    Res E β w σ tok r x (σ.H.upd tok (sz, es)) := by
  refine ⟨_, v, w', β.upd tok ⟨w.heap.size, sz, cap, false, 0, true⟩, hr, .inl rfl, h.hs.grew hg sz cap es hf htok hl hcs hm hc, h.hs.grew_stp hg _ (sz, es) rfl hf, h.cx.grew hg _ (sz, es) rfl hf hE, ?_, ?_⟩
  · rcases hv with ⟨rfl, rfl⟩ | ⟨n, rfl, rfl, hn⟩
    · have := Rep.ad (ok := okB E.X (β.upd tok ⟨w.heap.size, sz, cap, false, 0, true⟩) (σ.H.upd tok (sz, es))) (w := w') tok 0 0 _ (Bt.upd_self β tok ⟨w.heap.size, sz, cap, false, 0, true⟩)
      simpa using this
    · exact .rf tok 0 n _ _ ⟨w.heap.size, sz, cap, false, 0, true⟩ (Bt.upd_self _ _ _) (fun _ => by simp) hn (fun _ _ => rfl)
  · intro u hu hb
    rw [Bt.upd_ne β _ hu]; exact hb

theorem one_CellsRep {β : Bt} {ok : Nat → Prop} {w : World} {c : Array Value} {z : AV} (h : ARep β ok w c z.cells) : CellsRep β ok w c z.cells.length [z] := by
  intro i y hy
  cases i with
  | zero =>
    simp at hy; subst hy
    refine ⟨rfl, fun j q hq => ?_⟩
    have hlt : j < c.size := by rw [h.1]; exact (List.getElem?_eq_some_iff.1 hq).1
    refine ⟨c[j], by simp [hlt], ?_⟩
    have := h.2 j q hq
    rwa [Array.getElem?_eq_getElem hlt] at this
  | succ i => simp at hy

theorem zeroOf_info {t : TypeId} {z : AV} (h : zeroOf P t = some z) : ∃ i v, P.info? t = some i ∧ i.zero = some v ∧ cval v = some z ∧ z.cells.length = i.size ∧ v.cells.size = i.size ∧ 0 < i.size := by
  unfold zeroOf at h
  split at h
  · rename_i i hi
    split at h
    · rename_i v hv
      split at h
      · rename_i y hy
        split at h
        · rename_i hc; cases h; exact ⟨i, v, hi, hv, hy, hc⟩
        · cases h
      · cases h
    · cases h
  · cases h

theorem zero_ARep {t : TypeId} {z : AV} (h : zeroOf P t = some z) (β : Bt) (ok : Nat → Prop) (w : World) : ∃ v, (zeroValue t).run P w = .ok v w ∧ ARep β ok w v.cells z.cells ∧ v.cells.size = z.cells.length := by
  obtain ⟨i, v, h1, h2, h3, h4, h5, h6⟩ := zeroOf_info h
  obtain ⟨r1, r2, r3⟩ := cval_rep h3 β ok w
  refine ⟨v, by simp [zeroValue, typeInfo, h1, h2], ⟨r2, fun j y hj => ?_⟩, r2⟩
  obtain ⟨u, hu, hr⟩ := r3 j y hj
  simpa [hu] using hr

theorem op_new (h : Sim E β N a w σ) (hf : β tok = none) (htok : tok < σ.n) (hE : E.n ≤ tok) {t : TypeId} {z : AV} (ho : o.op = .alloc t) (hz : zeroOf P t = some z) :
    Res E β w σ tok ((execOp a.eval o).run P w) (.ad tok 0 0) (σ.H.upd tok (z.cells.length, [z])) := by
  obtain ⟨v, h1, h2, h3⟩ := zero_ARep (P := P) hz β (okB E.X β σ.H) w
  refine res_grew h hf htok hE (w' := { w with heap := w.heap.push (.cells v.cells t) }) (c := v.cells) (e := t) ⟨rfl, rfl, rfl, rfl⟩ (sz := z.cells.length) (cap := 1) (es := [z]) (Nat.le_refl 1)
    (by omega) (by simp [maxLen]) (one_CellsRep h2) ?_ (.inl ⟨rfl, rfl⟩)
  simp [execOp, ho, Instr.alloc, h1, newVar, newRow]

theorem op_box (h : Sim E β N a w σ) (hf : β tok = none) (htok : tok < σ.n) (hE : E.n ≤ tok) {t : TypeId} {y : Operand} {y' : AO} (ho : o.op = .box t y) (hy : copd y = some y') (hx : y'.ev σ.fr ≠ .top) :
    Res E β w σ tok ((execOp a.eval o).run P w) (.ad tok 0 0) (σ.H.upd tok ((y'.ev σ.fr).cells.length, [y'.ev σ.fr])) := by
  have h2 := cells_rep (opd_rep h hy) hx
  refine res_grew h hf htok hE (w' := { w with heap := w.heap.push (.cells (a.eval y).cells t) }) (c := (a.eval y).cells) (e := t) ⟨rfl, rfl, rfl, rfl⟩ (sz := (y'.ev σ.fr).cells.length) (cap := 1) (es := [y'.ev σ.fr]) (Nat.le_refl 1)
    (by rw [h2.1]; omega) (by simp [maxLen]) (one_CellsRep h2) ?_ (.inl ⟨rfl, rfl⟩)
  simp [execOp, ho, Instr.box, newVar, newRow]

theorem isTop_ne {v : AV} (h : v.isTop = false) : v ≠ .top := by intro e; subst e; cases h

/-- The parts of a struct. -/
theorem fillS_run (h : Sim E β N a w σ) (place : Nat → Option (Nat × Nat)) : ∀ (ps : List (Nat × Operand)) (qs : List (Nat × Nat × AO)) (us : Array Value) (cs ds : List AV),
    qs.length = ps.length → (∀ (k : Nat) (i : Nat) (y : Operand) (of s : Nat) (y' : AO), ps[k]? = some (i, y) → qs[k]? = some (of, s, y') → place i = some (of, s) ∧ copd y = some y') →
    ARep β (okB E.X β σ.H) w us cs → fillS σ.fr cs qs = some ds → ∃ vs, Instr.fill place us (ps.map fun p => (p.1, a.eval p.2)) = some vs ∧ ARep β (okB E.X β σ.H) w vs ds
  | [], [], us, cs, ds, _, _, hA, hf => by cases hf; exact ⟨us, rfl, hA⟩
  | [], _ :: _, _, _, _, hl, _, _, _ => by simp at hl
  | _ :: _, [], _, _, _, hl, _, _, _ => by simp at hl
  | (i, y) :: ps, (of, s, y') :: qs, us, cs, ds, hl, hp, hA, hf => by
    obtain ⟨h1, h2⟩ := hp 0 i y of s y' rfl rfl
    simp only [fillS] at hf
    split at hf
    · rename_i hc
      have hr := cells_rep (opd_rep h h2) (isTop_ne hc.1)
      simp only [List.map_cons]
      rw [fill_step place us i (a.eval y) _ h1 (by rw [hr.1]; exact hc.2.1) (by rw [hr.1, hA.1]; omega)]
      refine fillS_run h place ps qs _ _ ds (by simpa using hl) (fun k i y of s y' q1 q2 => hp (k + 1) i y of s y' (by simpa using q1) (by simpa using q2)) (hA.splice hr (by omega)) hf
    · cases hf

theorem partsS_spec {fs : Array Field} : ∀ {ps : List (Nat × Operand)} {qs : List (Nat × Nat × AO)}, partsS P fs ps = some qs → qs.length = ps.length ∧
    ∀ (k i : Nat) (y : Operand) (of s : Nat) (y' : AO), ps[k]? = some (i, y) → qs[k]? = some (of, s, y') → (∃ f b, fs[i]? = some f ∧ f.offset = of ∧ tyOf P f.type = some (b, s)) ∧ copd y = some y'
  | [], qs, hp => by cases hp; exact ⟨rfl, fun k i y of s y' h1 => by simp at h1⟩
  | (i, y) :: r, qs, hp => by
    simp only [partsS] at hp
    split at hp
    · rename_i f z l hf hz hl
      split at hp
      · rename_i b s hs
        cases hp
        have ih := partsS_spec hl
        refine ⟨by simp [ih.1], fun k i2 y2 of s2 y' h1 h2 => ?_⟩
        cases k with
        | zero => simp at h1 h2; obtain ⟨rfl, rfl⟩ := h1; obtain ⟨rfl, rfl, rfl⟩ := h2; exact ⟨⟨f, b, hf, rfl, hs⟩, hz⟩
        | succ k => exact ih.2 k i2 y2 of s2 y' (by simpa using h1) (by simpa using h2)
      · cases hp
    · cases hp

theorem partsA_spec {sz : Nat} : ∀ {ps : List (Nat × Operand)} {qs : List (Nat × Nat × AO)}, partsA sz ps = some qs → qs.length = ps.length ∧
    ∀ (k i : Nat) (y : Operand) (of s : Nat) (y' : AO), ps[k]? = some (i, y) → qs[k]? = some (of, s, y') → (of = i * sz ∧ s = sz) ∧ copd y = some y'
  | [], qs, hp => by cases hp; exact ⟨rfl, fun k i y of s y' h1 => by simp at h1⟩
  | (i, y) :: r, qs, hp => by
    simp only [partsA] at hp
    split at hp
    · rename_i z l hz hl
      cases hp
      have ih := partsA_spec hl
      refine ⟨by simp [ih.1], fun k i2 y2 of s2 y' h1 h2 => ?_⟩
      cases k with
      | zero => simp at h1 h2; obtain ⟨rfl, rfl⟩ := h1; obtain ⟨rfl, rfl, rfl⟩ := h2; exact ⟨⟨rfl, rfl⟩, hz⟩
      | succ k => exact ih.2 k i2 y2 of s2 y' (by simpa using h1) (by simpa using h2)
    · cases hp

theorem run_mapM_list : ∀ (fs : List Field) (hall : ∀ f ∈ fs, (tyOf P f.type).isSome = true) (w : World),
    ∃ places : List (Nat × Nat), (fs.mapM fun f => do pure (f.offset, ← sizeOf f.type) : Sem (List (Nat × Nat))).run P w = .ok places w ∧
      ∀ (i : Nat) (f : Field) (b : Bool) (s : Nat), fs[i]? = some f → tyOf P f.type = some (b, s) → places[i]? = some (f.offset, s)
  | [], _, w => ⟨[], by simp, fun i f b s h => by simp at h⟩
  | f :: r, hall, w => by
    obtain ⟨pl, h1, h2⟩ := run_mapM_list r (fun g hg => hall g (by simp [hg])) w
    have hf := hall f (by simp)
    cases ht : tyOf P f.type with
    | none => rw [ht] at hf; cases hf
    | some bs =>
      obtain ⟨b, s⟩ := bs
      refine ⟨(f.offset, s) :: pl, ?_, fun i g b' s' hg hs => ?_⟩
      · simp only [List.mapM_cons, Sem.run_bind, run_sizeOf_ty ht, Result.andThen_ok, Sem.run_pure, h1]
      · cases i with
        | zero => simp at hg; subst hg; rw [ht] at hs; cases hs; rfl
        | succ i => simpa using h2 i g b' s' (by simpa using hg) hs

theorem run_mapM_places (fs : Array Field) (hall : fs.toList.all (fun f => (tyOf P f.type).isSome) = true) (w : World) :
    ∃ places : Array (Nat × Nat), (fs.mapM fun f => do pure (f.offset, ← sizeOf f.type) : Sem (Array (Nat × Nat))).run P w = .ok places w ∧
      ∀ (i : Nat) (f : Field) (b : Bool) (s : Nat), fs[i]? = some f → tyOf P f.type = some (b, s) → places[i]? = some (f.offset, s) := by
  obtain ⟨pl, h1, h2⟩ := run_mapM_list (P := P) fs.toList (fun f hf => (List.all_eq_true.1 hall) f hf) w
  refine ⟨pl.toArray, ?_, fun i f b s hf hs => by simpa using h2 i f b s (by simpa using hf) hs⟩
  rw [Array.mapM_eq_mapM_toList, Sem.run_map, h1]
  rfl

theorem op_bldS (h : Sim E β N a w σ) {t : TypeId} {fs : Array Field} {ps : Array (Nat × Operand)} {z : AV} {qs : List (Nat × Nat × AO)} {ds : List AV} (ho : o.op = .build t ps) (ht : P.underlying t = some (.struct fs))
    (hz : zeroOf P t = some z) (hall : fs.toList.all (fun f => (tyOf P f.type).isSome) = true) (hq : partsS P fs ps.toList = some qs) (hf : fillS σ.fr z.cells qs = some ds) :
    Res E β w σ tok ((execOp a.eval o).run P w) (.agg ds) σ.H := by
  obtain ⟨v, h1, h2, h3⟩ := zero_ARep (P := P) hz β (okB E.X β σ.H) w
  obtain ⟨l1, l2⟩ := partsS_spec hq
  obtain ⟨pl, p1, p2⟩ := run_mapM_places (P := P) fs hall w
  obtain ⟨vs, r1, r2⟩ := fillS_run h (fun i => pl[i]?) ps.toList qs v.cells z.cells ds l1 (fun k i y of s y' q1 q2 => by
    obtain ⟨⟨f, b, hf, rfl, hs⟩, hc⟩ := l2 k i y of s y' q1 q2; exact ⟨p2 i f b s hf hs, hc⟩) h2 hf
  refine res_pure h (v := .agg vs) ?_ (.agg vs ds r2.1 r2.2)
  have e1 : (ps.map fun p => (p.1, a.eval p.2)).toList = ps.toList.map fun p => (p.1, a.eval p.2) := by simp
  simp only [execOp, ho, Instr.build, Sem.run_bind, h1, Result.andThen_ok, run_underlying ht]
  rw [p1]
  simp only [Result.andThen_ok, e1, r1, Sem.run_pure]

theorem op_bldA (h : Sim E β N a w σ) {t e : TypeId} {n : Nat} {ps : Array (Nat × Operand)} {z : AV} {s : Nat} {b : Bool} {qs : List (Nat × Nat × AO)} {ds : List AV} (ho : o.op = .build t ps) (ht : P.underlying t = some (.array n e))
    (hz : zeroOf P t = some z) (hs : tyOf P e = some (b, s)) (hq : partsA s ps.toList = some qs) (hf : fillS σ.fr z.cells qs = some ds) : Res E β w σ tok ((execOp a.eval o).run P w) (.agg ds) σ.H := by
  obtain ⟨v, h1, h2, h3⟩ := zero_ARep (P := P) hz β (okB E.X β σ.H) w
  obtain ⟨l1, l2⟩ := partsA_spec hq
  obtain ⟨vs, r1, r2⟩ := fillS_run h (fun i => some (i * s, s)) ps.toList qs v.cells z.cells ds l1 (fun k i y of s' y' q1 q2 => by
    obtain ⟨⟨rfl, rfl⟩, hc⟩ := l2 k i y of s' y' q1 q2; exact ⟨rfl, hc⟩) h2 hf
  refine res_pure h (v := .agg vs) ?_ (.agg vs ds r2.1 r2.2)
  have e1 : (ps.map fun p => (p.1, a.eval p.2)).toList = ps.toList.map fun p => (p.1, a.eval p.2) := by simp
  simp only [execOp, ho, Instr.build, Sem.run_bind, h1, Result.andThen_ok, run_underlying ht, run_sizeOf_ty hs]
  simp only [e1, r1, Sem.run_pure, Result.andThen_ok]

end ops
end Go.Am
/-! Slice literals, make, stores. -/
namespace Go.Am
set_option linter.unusedVariables false
set_option linter.unusedSimpArgs false

theorem row_lt {i n sz j : Nat} (hi : i < n) (hj : j < sz) : i * sz + j < n * sz := by
  have : (i + 1) * sz ≤ n * sz := Nat.mul_le_mul_right _ hi
  rw [Nat.add_mul] at this; omega

theorem row_ne {i k sz j : Nat} (h : i ≠ k) (hj : j < sz) : ¬ (k * sz ≤ i * sz + j ∧ i * sz + j < k * sz + sz) := by
  intro ⟨h1, h2⟩
  rcases Nat.lt_or_gt_of_ne h with h3 | h3
  · have : (i + 1) * sz ≤ k * sz := Nat.mul_le_mul_right _ h3
    rw [Nat.add_mul] at this; omega
  · have : (k + 1) * sz ≤ i * sz := Nat.mul_le_mul_right _ h3
    rw [Nat.add_mul] at this; omega

section cells
variable {β : Bt} {ok : Nat → Prop} {w : World}

theorem CellsRep.set {c : Array Value} {sz : Nat} {es : List AV} (h : CellsRep β ok w c sz es) {n : Nat} (hc : c.size = n * sz) (hn : es.length ≤ n) {i : Nat} (hi : i < es.length) {x : AV} {vs : Array Value}
    (hx : ARep β ok w vs x.cells) (hsz : x.cells.length = sz) : CellsRep β ok w (splice c (i * sz) vs.toList) sz (es.set i x) := by
  intro k y hy
  have hvl : vs.toList.length = sz := by simp [hx.1, hsz]
  by_cases hk : i = k
  · subst hk
    rw [List.getElem?_set_self hi] at hy; cases hy
    refine ⟨hsz, fun j q hq => ?_⟩
    have hj : j < sz := by rw [← hsz]; exact (List.getElem?_eq_some_iff.1 hq).1
    have hlt := row_lt (show i < n by omega) hj
    rw [splice_get, if_pos (by rw [hc]; omega)]
    have hjv : j < vs.size := by rw [hx.1]; omega
    refine ⟨vs[j], by rw [show i * sz + j - i * sz = j by omega]; simp [hjv], ?_⟩
    have := hx.2 j q hq
    rwa [Array.getElem?_eq_getElem hjv] at this
  · rw [List.getElem?_set_ne hk] at hy
    obtain ⟨h1, h2⟩ := h k y hy
    refine ⟨h1, fun j q hq => ?_⟩
    have hj : j < sz := by rw [← h1]; exact (List.getElem?_eq_some_iff.1 hq).1
    obtain ⟨v, hv, hr⟩ := h2 j q hq
    refine ⟨v, ?_, hr⟩
    have := row_ne (sz := sz) (Ne.symm hk) hj
    rw [splice_get, if_neg (by omega)]
    exact hv

theorem zeroRow_rep {v : Array Value} {z : AV} (h : ARep β ok w v z.cells) {n m : Nat} (hm : m ≤ n) :
    CellsRep β ok w ((Array.range (n * z.cells.length)).map fun i => v[i % v.size]!) z.cells.length (List.replicate m z) := by
  intro i y hy
  have hi : i < m := by have := (List.getElem?_eq_some_iff.1 hy).1; simpa using this
  rw [List.getElem?_replicate, if_pos hi] at hy; cases hy
  refine ⟨rfl, fun j q hq => ?_⟩
  have hj : j < z.cells.length := (List.getElem?_eq_some_iff.1 hq).1
  have hlt := row_lt (show i < n by omega) hj
  have hjv : j < v.size := by rw [h.1]; exact hj
  refine ⟨v[j], ?_, ?_⟩
  · have hmod : (i * z.cells.length + j) % v.size = j := by rw [h.1, Nat.mul_comm, Nat.mul_add_mod, Nat.mod_eq_of_lt hj]
    simp [hlt, hmod, hjv]
  · have := h.2 j q hq
    rwa [Array.getElem?_eq_getElem hjv] at this
end cells

section ops
variable {P : Program} {E : Entry} {β : Bt} {N : Nat} {a : Act} {w w' : World} {σ : St} {tok : Nat} {x : AV} {H' : Heap} {o : Oper}

theorem partsL_spec : ∀ {ps : List (Nat × Operand)} {qs : List (Nat × AO)}, partsL ps = some qs → qs.length = ps.length ∧
    ∀ (k i : Nat) (y : Operand) (i' : Nat) (y' : AO), ps[k]? = some (i, y) → qs[k]? = some (i', y') → i' = i ∧ copd y = some y'
  | [], qs, hp => by cases hp; exact ⟨rfl, fun k i y i' y' h1 => by simp at h1⟩
  | (i, y) :: r, qs, hp => by
    simp only [partsL] at hp
    split at hp
    · rename_i z l hz hl
      cases hp
      have ih := partsL_spec hl
      refine ⟨by simp [ih.1], fun k i2 y2 i' y' h1 h2 => ?_⟩
      cases k with
      | zero => simp at h1 h2; obtain ⟨rfl, rfl⟩ := h1; obtain ⟨rfl, rfl⟩ := h2; exact ⟨rfl, hz⟩
      | succ k => exact ih.2 k i2 y2 i' y' (by simpa using h1) (by simpa using h2)
    · cases hp

theorem fillL_run (h : Sim E β N a w σ) {sz n : Nat} : ∀ (ps : List (Nat × Operand)) (qs : List (Nat × AO)) (c : Array Value) (es ds : List AV),
    qs.length = ps.length → (∀ (k i : Nat) (y : Operand) (i' : Nat) (y' : AO), ps[k]? = some (i, y) → qs[k]? = some (i', y') → i' = i ∧ copd y = some y') →
    c.size = n * sz → es.length = n → CellsRep β (okB E.X β σ.H) w c sz es → fillL σ.fr sz es qs = some ds →
    ∃ c', Instr.fill (fun i => some (i * sz, sz)) c (ps.map fun p => (p.1, a.eval p.2)) = some c' ∧ c'.size = n * sz ∧ ds.length = n ∧ CellsRep β (okB E.X β σ.H) w c' sz ds
  | [], [], c, es, ds, _, _, hc, hn, hA, hf => by cases hf; exact ⟨c, rfl, hc, hn, hA⟩
  | [], _ :: _, _, _, _, hl, _, _, _, _, _ => by simp at hl
  | _ :: _, [], _, _, _, hl, _, _, _, _, _ => by simp at hl
  | (i, y) :: ps, (i', y') :: qs, c, es, ds, hl, hp, hc, hn, hA, hf => by
    obtain ⟨rfl, h2⟩ := hp 0 i y i' y' rfl rfl
    simp only [fillL] at hf
    split at hf
    · rename_i hcd
      have hr := cells_rep (opd_rep h h2) (isTop_ne hcd.1)
      have hlt : i' < n := by omega
      have hrow : (i' + 1) * sz ≤ n * sz := Nat.mul_le_mul_right _ hlt
      rw [Nat.add_mul] at hrow
      simp only [List.map_cons]
      rw [fill_step _ c i' (a.eval y) _ rfl (by rw [hr.1]; exact hcd.2.1) (by rw [hr.1, hc, hcd.2.1]; omega)]
      exact fillL_run h ps qs _ _ ds (by simpa using hl) (fun k i y i' y' q1 q2 => hp (k + 1) i y i' y' (by simpa using q1) (by simpa using q2)) (by rw [splice_size]; exact hc) (by simpa using hn)
        (hA.set hc (by omega) hcd.2.2 hr hcd.2.1) hf
    · cases hf

theorem zeroOf_size {t : TypeId} {z : AV} (h : zeroOf P t = some z) (w : World) : (sizeOf t).run P w = .ok z.cells.length w ∧ 0 < z.cells.length := by
  obtain ⟨i, v, h1, h2, h3, h4, h5, h6⟩ := zeroOf_info h
  exact ⟨by simp [sizeOf, typeInfo, h1, h4], by omega⟩

theorem op_bsl (h : Sim E β N a w σ) (hf : β tok = none) (htok : tok < σ.n) (hE : E.n ≤ tok) {t e : TypeId} {n : Nat} {ps : Array (Nat × Operand)} {z : AV} {qs : List (Nat × AO)} {ds : List AV}
    (ho : o.op = .buildSlice t n ps) (ht : P.underlying t = some (.slice e)) (hz : zeroOf P e = some z) {inf : TypeInfo} (hi : P.info? e = some inf) (hlim : n * inf.size ≤ 2 ^ 24) (hq : partsL ps.toList = some qs)
    (hfl : fillL σ.fr z.cells.length (List.replicate n z) qs = some ds) : Res E β w σ tok ((execOp a.eval o).run P w) (.rf tok 0 n) (σ.H.upd tok (z.cells.length, ds)) := by
  obtain ⟨v, h1, h2, h3⟩ := zero_ARep (P := P) hz β (okB E.X β σ.H) w
  obtain ⟨hsz, hpos⟩ := zeroOf_size hz w
  have hinf : inf.size = z.cells.length := by
    obtain ⟨i, _, g1, _, _, g4, _⟩ := zeroOf_info hz
    rw [hi] at g1; cases g1; exact g4.symm
  rw [hinf] at hlim
  have hn : n ≤ 2 ^ 24 := Nat.le_trans (Nat.le_mul_of_pos_right n hpos) hlim
  obtain ⟨l1, l2⟩ := partsL_spec hq
  have hc0 : CellsRep β (okB E.X β σ.H) w ((Array.range (n * z.cells.length)).map fun i => v.cells[i % v.cells.size]!) z.cells.length (List.replicate n z) := zeroRow_rep h2 (Nat.le_refl n)
  obtain ⟨c', r1, r2, r3, r4⟩ := fillL_run h (n := n) ps.toList qs _ _ ds l1 l2 (by simp) (by simp) hc0 hfl
  refine res_grew h hf htok hE (w' := { w with heap := w.heap.push (.cells c' e) }) (c := c') (e := e) ⟨rfl, rfl, rfl, rfl⟩ (sz := z.cells.length) (cap := n) (es := ds) (by omega)
    r2 (by simp only [maxLen]; omega) r4 ?_ (.inr ⟨n, rfl, rfl, Nat.le_refl n⟩)
  have hlim' : ¬ n * z.cells.length > 2 ^ 24 := by omega
  have e1 : (ps.map fun p => (p.1, a.eval p.2)).toList = ps.toList.map fun p => (p.1, a.eval p.2) := by simp
  simp only [execOp, ho, Instr.buildSlice, Sem.run_bind, run_underlying ht, Result.andThen_ok, hsz]
  rw [if_neg hlim']
  by_cases h0 : n = 0
  · subst h0
    simp only [Nat.zero_mul, if_true, Sem.run_pure, Result.andThen_ok, e1] at r1 ⊢
    simp only [Sem.run_bind, Sem.run_pure, Result.andThen_ok]
    have e3 : (Array.map (fun x => (#[] : Array Value)[x % (#[] : Array Value).size]!) (Array.range 0)) = (Array.map (fun i => v.cells[i % v.cells.size]!) (Array.range 0)) := by simp
    simp only [Array.range_zero', Array.map_empty] at r1 ⊢
    simp [r1, newRow]
  · have hne : n * z.cells.length ≠ 0 := Nat.mul_ne_zero h0 (by omega)
    simp only [if_neg hne, Sem.run_bind, h1, Result.andThen_ok, Sem.run_pure, e1, r1]
    simp [newRow]

end ops
end Go.Am
/-! make, stores. -/
namespace Go.Am
set_option linter.unusedVariables false
set_option linter.unusedSimpArgs false

theorem wrap64_id {n : Int} (h0 : -9223372036854775808 ≤ n) (h1 : n ≤ 9223372036854775807) : IntKind.i64.wrap n = n := IntWalk.i64_in n ⟨h0, h1⟩

section ops
variable {P : Program} {E : Entry} {β : Bt} {N : Nat} {a : Act} {w w' : World} {σ : St} {tok : Nat} {x : AV} {H' : Heap} {o : Oper}

theorem op_mks (h : Sim E β N a w σ) (hf : β tok = none) (htok : tok < σ.n) (hE : E.n ≤ tok) {t e : TypeId} {y c : Operand} {y' c' : AO} {z : AV} {inf : TypeInfo}
    (ho : o.op = .makeSlice t y c) (ht : P.underlying t = some (.slice e)) (hz : zeroOf P e = some z) (hi : P.info? e = some inf) (hy : copd y = some y') (hc : copd c = some c') {k1 k2 : IntKind} {l cp : Int}
    (hyv : y'.ev σ.fr = .i k1 l) (hcv : c'.ev σ.fr = .i k2 cp) (h0 : 0 ≤ l) (hlc : l ≤ cp) (h63 : cp ≤ 9223372036854775807) (hb : cp * inf.bytes ≤ maxB) :
    Res E β w σ tok ((execOp a.eval o).run P w) (.rf tok 0 l.toNat) (σ.H.upd tok (z.cells.length, List.replicate l.toNat z)) := by
  obtain ⟨v, h1, h2, h3⟩ := zero_ARep (P := P) hz β (okB E.X β σ.H) w
  obtain ⟨hsz, hpos⟩ := zeroOf_size hz w
  have hl := (hyv ▸ opd_rep h hy : Rep _ _ _ _ (.i k1 l)).i_inv
  have hcp := (hcv ▸ opd_rep h hc : Rep _ _ _ _ (.i k2 cp)).i_inv
  refine res_grew h hf htok hE (w' := { w with heap := w.heap.push (.cells ((Array.range (cp.toNat * z.cells.length)).map fun i => v.cells[i % v.cells.size]!) e) }) (e := e) ⟨rfl, rfl, rfl, rfl⟩ (sz := z.cells.length) (cap := cp.toNat)
    (es := List.replicate l.toNat z) (by simp; omega) (by simp) (by simp only [maxLen]; omega) (zeroRow_rep h2 (by omega)) ?_ (.inr ⟨l.toNat, rfl, rfl, by omega⟩)
  have wl : IntKind.i64.wrap l = l := wrap64_id (by omega) (by omega)
  have wc : IntKind.i64.wrap cp = cp := wrap64_id (by omega) (by omega)
  have hb2 : (inf.bytes : Int) * cp ≤ 140737488355328 := by rw [Int.mul_comm]; simpa [maxB] using hb
  have e48 : (inf.bytes : Int) * cp ≤ 281474976710656 := by omega
  have n1 : ¬ cp < 0 := by omega
  have n2 : ¬ l < 0 := by omega
  have n3 : ¬ l > cp := by omega
  have tl : (decide (cp < 0) || decide ((inf.bytes : Int) * cp > 2 ^ 48)) = false := by simp [n1, e48]
  simp only [execOp, ho, Instr.makeSlice, Sem.run_bind, run_underlying ht, Result.andThen_ok, hl, hcp, asInt, asIntOf, Sem.run_pure, typeInfo, run_program, hi, wl, wc]
  rw [if_neg (by simp [n2, n3]; exact ⟨by omega, e48⟩)]
  simp only [Sem.run_bind, Sem.run_pure, run_askRoom, Result.andThen_ok, hsz]
  by_cases hz0 : cp.toNat = 0
  · have e0 : ∀ f : Nat → Value, Array.map f (Array.range 0) = #[] := fun f => by rw [Array.range_zero', Array.map_empty]
    simp only [hz0, Nat.zero_mul, if_true, Sem.run_bind, Sem.run_pure, Result.andThen_ok, newRow, run_newObj, e0]
  · have hne : cp.toNat * z.cells.length ≠ 0 := Nat.mul_ne_zero hz0 (by omega)
    rw [if_neg hne]
    simp only [Sem.run_bind, h1, Result.andThen_ok, Sem.run_pure]
    simp [newRow]

theorem setCells_get (g : Nat) (e : TypeId) : ∀ (vs : List Value) (of : Nat) (w : World) (cur : Array Value), w.heap[g]? = some (.cells cur e (0, 0)) → (w.setCells g of vs).heap[g]? = some (.cells (splice cur of vs) e (0, 0))
  | [], of, w, cur, h => h
  | v :: r, of, w, cur, h => by
    simp only [World.setCells, splice]
    exact setCells_get g e r (of + 1) _ _ (heap_setCell_same w g of cur e v h)

theorem setCells_other (g : Nat) : ∀ (vs : List Value) (of : Nat) (w : World) (k : Nat), k ≠ g → (w.setCells g of vs).heap[k]? = w.heap[k]?
  | [], of, w, k, h => rfl
  | v :: r, of, w, k, h => by
    simp only [World.setCells]
    rw [setCells_other g r (of + 1) _ k h]
    exact heap_setCell_other w _ k v h

theorem setCells_rest (g : Nat) : ∀ (vs : List Value) (of : Nat) (w : World), (w.setCells g of vs).heap.size = w.heap.size ∧ (w.setCells g of vs).os = w.os ∧ (w.setCells g of vs).tape = w.tape ∧ (w.setCells g of vs).output = w.output
  | [], of, w => ⟨rfl, rfl, rfl, rfl⟩
  | v :: r, of, w => by
    simp only [World.setCells]
    obtain ⟨h1, h2, h3, h4⟩ := setCells_rest g r (of + 1) (w.setCell ⟨g, of, none⟩ v)
    exact ⟨by rw [h1]; simp [World.setCell], h2, h3, h4⟩

theorem wrote_setCells {g : Nat} {e : TypeId} {cur : Array Value} (vs : List Value) (of : Nat) (w : World) (h : w.heap[g]? = some (.cells cur e (0, 0))) : Wrote w (w.setCells g of vs) g (splice cur of vs) e :=
  ⟨setCells_get g e vs of w cur h, fun k hk => setCells_other g vs of w k hk, (setCells_rest g vs of w).1, (setCells_rest g vs of w).2.1, (setCells_rest g vs of w).2.2.1, (setCells_rest g vs of w).2.2.2⟩

theorem oneCell_of {β : Bt} {ok : Nat → Prop} {w : World} {v : Value} {x : AV} (h : Rep β ok w v x) (hx : cellOk x = true) : v.oneCell' = true := by
  cases h <;> first | rfl | (cases hx; done)

theorem run_storeVar_cells {t : TypeId} {v : Value} {g of : Nat} {cur : Array Value} {e : TypeId} (hi : (P.info? t).map (·.size) = some v.cells.size) (hg : w.heap[g]? = some (.cells cur e (0, 0)))
    (hb : of + v.cells.size ≤ cur.size) (h1 : ∀ u ∈ v.cells.toList, u.oneCell' = true) : (storeVar t ⟨g, of, none⟩ v).run P w = .ok () (w.setCells g of v.cells.toList) := by
  have hcell : ∀ k, k < cur.size → w.cell? ⟨g, k, none⟩ = some (cur.getD k undef) := by
    intro k hk
    simp [World.cell?, hg, hk]
  have := run_storeCells_cells (P := P) g of v.cells.toList 0 w
    (fun j hj => by rw [hcell _ (by simp at hj; omega)]; rfl)
    (fun j hj => by simp [World.frozen?, hg]) h1
  cases hq : P.info? t with
  | none => simp [hq] at hi
  | some i =>
    have hs : v.cells.size = i.size := by simp [hq] at hi; omega
    simp only [Nat.add_zero] at this
    simp [storeVar, sizeOf, typeInfo, hq, hs, this]

theorem remake_cells {e : AV} {cs : List AV} (hl : cs.length = e.cells.length) (hc : (∀ es, e ≠ .agg es) → ∀ y ∈ cs, ∀ ds, y ≠ .agg ds) : (e.remake cs).cells = cs := by
  cases e <;> first | rfl | skip
  all_goals
    simp only [AV.remake]
    have h1 : cs.length = 1 := hl
    obtain ⟨y, rfl⟩ := List.length_eq_one_iff.1 h1
    have := hc (by intro es h; cases h) y (by simp)
    simp only [List.headD_cons]
    cases y <;> first | rfl | skip
    exact absurd rfl (this _)

theorem fillOne_mem {cs : List AV} {of : Nat} {vs : List AV} {y : AV} (h : y ∈ fillOne cs of vs) : y ∈ cs ∨ y ∈ vs := by
  simp only [fillOne, List.mem_append] at h
  rcases h with (h | h) | h
  · exact .inl (List.mem_of_mem_take h)
  · exact .inr h
  · exact .inl (List.mem_of_mem_drop h)

theorem op_st (h : Sim E β N a w σ) {t : TypeId} {y z : Operand} {y' z' : AO} {s : Option Nat} (ho : o.op = .store t y z) (ht : ldOf P t = some s) (hy : copd y = some y') (hz : copd z = some z')
    {u i of : Nat} (hyv : y'.ev σ.fr = .ad u i of) {zz : Nat} {es : List AV} (hes : σ.H u = some (zz, es)) {e : AV} (he : es[i]? = some e) (hl : (z'.ev σ.fr).cells.length = s.getD 1) (hle : of + (z'.ev σ.fr).cells.length ≤ e.cells.length)
    (hall : (z'.ev σ.fr).cells.all cellOk = true) :
    Res E β w σ tok ((execOp a.eval o).run P w) .top (σ.H.upd u (zz, es.set i (e.remake (fillOne e.cells of (z'.ev σ.fr).cells)))) := by
  obtain ⟨p, hp, hv⟩ := (hyv ▸ opd_rep h hy : Rep _ _ _ _ (.ad u i of)).ad_inv
  have hzr := opd_rep h hz
  have hnt : z'.ev σ.fr ≠ .top := by intro e; rw [e] at hall; simp [AV.cells, cellOk] at hall
  have hA := cells_rep hzr hnt
  obtain ⟨p', hp', hd, hzz, hlen, hx⟩ := h.hs.dom _ _ hes
  dsimp only at hzz hlen hx
  rw [hp] at hp'; cases hp'
  obtain ⟨hxx, cur, e0, hg, hcs, hcap⟩ := h.hs.blk _ _ hp
  have hi : i < es.length := (List.getElem?_eq_some_iff.1 he).1
  have hesz : e.cells.length = p.sz := (hx _ _ he).1
  have hrow : (i + 1) * p.sz ≤ p.cap * p.sz := Nat.mul_le_mul_right _ (by omega)
  rw [Nat.add_mul] at hrow
  have hone : ∀ q ∈ (a.eval z).cells.toList, q.oneCell' = true := by
    intro q hq
    obtain ⟨j, hj, rfl⟩ := List.getElem_of_mem hq
    have hj2 : j < (z'.ev σ.fr).cells.length := by rw [← hA.1]; simpa using hj
    have hr := hA.2 j _ (List.getElem?_eq_getElem hj2)
    rw [Array.getElem?_eq_getElem (by simpa using hj)] at hr
    simpa using oneCell_of hr (List.all_eq_true.1 hall _ (List.getElem_mem hj2))
  have hinfo : (P.info? t).map (·.size) = some (a.eval z).cells.size := by
    rw [hA.1, hl]
    unfold ldOf at ht
    split at ht
    · rename_i k hk
      cases ht
      obtain ⟨inf, d, g1, g2, _⟩ := tyOf_info hk
      simp [g1, g2]
    · rename_i hk
      cases ht
      obtain ⟨inf, d, g1, g2, _⟩ := tyOf_info hk
      simp [g1, g2]
    · cases ht
  have hcb := hcs.1
  have hbnd : p.b + (i * p.sz + of) + (a.eval z).cells.size ≤ cur.size := by rw [hA.1]; omega
  have hst := run_storeVar_cells (P := P) (t := t) (g := p.g) (of := p.b + (i * p.sz + of)) hinfo hg hbnd hone
  have hw := wrote_setCells (a.eval z).cells.toList (p.b + (i * p.sz + of)) w hg
  -- the new cells stand for the new elements
  have hfl := fillOne_length e.cells of (z'.ev σ.fr).cells hle
  have hnew : CellsRepB β (okB E.X β σ.H) w (splice cur (p.b + (i * p.sz + of)) (a.eval z).cells.toList) p.b p.sz (es.set i (e.remake (fillOne e.cells of (z'.ev σ.fr).cells))) := by
    have hrc : (e.remake (fillOne e.cells of (z'.ev σ.fr).cells)).cells = fillOne e.cells of (z'.ev σ.fr).cells := by
      refine remake_cells hfl fun hne y hy ds hyd => ?_
      rcases fillOne_mem hy with h1 | h1
      · have : e.cells = [e] := by cases e <;> first | rfl | exact absurd rfl (hne _)
        rw [this] at h1; simp at h1; subst h1; exact hne ds hyd
      · have := List.all_eq_true.1 hall _ h1; rw [hyd] at this; cases this
    have old : ∀ (k : Nat) (q : AV) (j : Nat) (r : AV), es[k]? = some q → q.cells[j]? = some r → ∃ v, cur[p.b + (k * p.sz + j)]? = some v ∧ Rep β (okB E.X β σ.H) w v r := by
      intro k q j r hk hj
      obtain ⟨v, hv, hr⟩ := (hx k q hk).2 j r hj
      refine ⟨v, ?_, hr⟩
      simpa [World.cell?, hg] using hv
    intro k q hq
    by_cases hk : i = k
    · subst hk
      rw [List.getElem?_set_self hi] at hq; cases hq
      refine ⟨by rw [hrc, hfl, hesz], fun j r hr => ?_⟩
      rw [hrc, fillOne_get _ _ _ hle] at hr
      have hrowj : ∀ j, j < p.sz → p.b + (i * p.sz + j) < cur.size := fun j hj => by omega
      rw [splice_get]
      by_cases hc : of ≤ j ∧ j < of + (z'.ev σ.fr).cells.length
      · rw [if_pos hc] at hr
        rw [if_pos (by have := hA.1; have := hrowj j (by omega); simp; omega)]
        have hlt : j - of < (a.eval z).cells.size := by rw [hA.1]; omega
        have hr' := hA.2 _ _ hr
        rw [Array.getElem?_eq_getElem hlt] at hr'
        exact ⟨(a.eval z).cells[j - of], by rw [show p.b + (i * p.sz + j) - (p.b + (i * p.sz + of)) = j - of by omega]; simp [hlt], hr'⟩
      · rw [if_neg hc] at hr
        rw [if_neg (by have := hA.1; simp; omega)]
        exact old i e j r he hr
    · rw [List.getElem?_set_ne hk] at hq
      refine ⟨(hx k q hq).1, fun j r hr => ?_⟩
      have hj : j < p.sz := by rw [← (hx k q hq).1]; exact (List.getElem?_eq_some_iff.1 hr).1
      have := row_ne (sz := p.sz) (Ne.symm hk) hj
      rw [splice_get, if_neg (by have := hA.1; simp; omega)]
      exact old k q j r hq hr
  refine ⟨.skip, undef, w.setCells p.g (p.b + (i * p.sz + of)) (a.eval z).cells.toList, β, ?_, .inr ⟨rfl, rfl⟩, h.hs.wrote hw hes hp (fun cur0 e1 h1 => by rw [hg] at h1; cases h1; exact splice_size ..) hzz (by simpa using hlen) hnew, hw.stp hes hp, h.cx.wrote hw hes hp, .top _, fun _ _ hb => hb⟩
  simp [execOp, ho, hv, Instr.storeAt, Instr.sureAddr, hst]

end ops
end Go.Am
/-! append. -/
namespace Go.Am
set_option linter.unusedVariables false
set_option linter.unusedSimpArgs false

section ops
variable {P : Program} {E : Entry} {β : Bt} {N : Nat} {a : Act} {w w' : World} {σ : St} {tok : Nat} {x : AV} {H' : Heap} {o : Oper}

/-- The elements of a slice value, as the machine reads them. -/
theorem elems_run {H : Heap} {n : Nat} (hs : HSim E.X β w H n) {v : Value} {y : AV} (hv : Rep β (okB E.X β H) w v y) {ys : List AV} (he : elems H y = some ys) {sz : Nat}
    (hsz : ∀ q ∈ ys, q.cells.length = sz) :
    ∃ ad c news, v = .slice ad ys.length c ∧ (Builtin.firstCells sz ys.length v).run P w = .ok news w ∧ news.size = ys.length * sz ∧ CellsRep β (okB E.X β H) w news sz ys ∧ ((∀ q ∈ ys, q.cells.all cellOk = true) → ∀ u ∈ news.toList, u.oneCell' = true) := by
  -- from cells that lie in a row
  have key : ∀ (g b c : Nat), (∀ (i : Nat) (q : AV) (j : Nat) (r : AV), ys[i]? = some q → q.cells[j]? = some r → ∃ u, w.cell? ⟨g, b + i * sz + j, none⟩ = some u ∧ Rep β (okB E.X β H) w u r) →
      ∃ news, (Builtin.firstCells sz ys.length (.slice (some ⟨g, b, none⟩) ys.length c)).run P w = .ok news w ∧ news.size = ys.length * sz ∧ CellsRep β (okB E.X β H) w news sz ys ∧ ((∀ q ∈ ys, q.cells.all cellOk = true) → ∀ u ∈ news.toList, u.oneCell' = true) := by
    intro g b c hc
    have hrow : ∀ k, k < ys.length * sz → ∃ (i : Nat) (q : AV) (j : Nat) (r : AV), k = i * sz + j ∧ ys[i]? = some q ∧ q.cells[j]? = some r ∧ j < sz := by
      intro k hk
      have h0 : 0 < sz := by rcases Nat.eq_zero_or_pos sz with h | h; · subst h; omega
                             · exact h
      have hi : k / sz < ys.length := Nat.div_lt_of_lt_mul (by rw [Nat.mul_comm]; exact hk)
      have hj : k % sz < sz := Nat.mod_lt _ h0
      have hq := hsz _ (List.getElem_mem hi)
      have hj2 : k % sz < (ys[k / sz]).cells.length := by rw [hq]; exact hj
      exact ⟨k / sz, ys[k / sz], k % sz, _, by rw [Nat.mul_comm]; exact (Nat.div_add_mod k sz).symm, List.getElem?_eq_getElem hi, List.getElem?_eq_getElem hj2, hj⟩
    let L := cellsAt w g b (ys.length * sz)
    have hlen : L.length = ys.length * sz := by simp [L, cellsAt]
    have hget : ∀ k, k < ys.length * sz → ∃ u, L[k]? = some u ∧ w.cell? ⟨g, b + k, none⟩ = some u := by
      intro k hk
      obtain ⟨i, q, j, r, rfl, h1, h2, _⟩ := hrow k hk
      obtain ⟨u, hu, _⟩ := hc i q j r h1 h2
      rw [Nat.add_assoc] at hu
      exact ⟨u, by simp [L, cellsAt, hk, hu], hu⟩
    refine ⟨L.toArray, ?_, by simp [hlen], ?_, ?_⟩
    · have := run_loadCells_list (P := P) w ⟨g, b, none⟩ L (fun j v hv => by
        have hj : j < ys.length * sz := by rw [← hlen]; exact (List.getElem?_eq_some_iff.1 hv).1
        obtain ⟨u, h1, h2⟩ := hget j hj
        rw [hv] at h1; cases h1
        rw [Addr.add_mid]; exact h2)
      rw [hlen] at this
      simpa [Builtin.firstCells] using this
    · intro i q hq
      refine ⟨hsz q (List.mem_of_getElem? hq), fun j r hr => ?_⟩
      obtain ⟨u, hu, hrep⟩ := hc i q j r hq hr
      have hj : j < sz := by rw [← hsz q (List.mem_of_getElem? hq)]; exact (List.getElem?_eq_some_iff.1 hr).1
      have hlt := row_lt (List.getElem?_eq_some_iff.1 hq).1 hj
      obtain ⟨u', h1, h2⟩ := hget _ hlt
      rw [← Nat.add_assoc, hu] at h2; cases h2
      exact ⟨u, by simpa using h1, hrep⟩
    · intro hco u hu
      obtain ⟨k, hk, rfl⟩ := List.getElem_of_mem hu
      simp only [List.size_toArray, Array.length_toList] at hk
      have hk' : k < ys.length * sz := by rw [← hlen]; simpa using hk
      obtain ⟨u, h1, h2⟩ := hget k hk'
      obtain ⟨i, q, j, r, rfl, g1, g2, _⟩ := hrow k hk'
      obtain ⟨u', g3, g4⟩ := hc i q j r g1 g2
      rw [Nat.add_assoc, h2] at g3; cases g3
      have : L[i * sz + j]? = some L[i * sz + j] := List.getElem?_eq_getElem (by rw [hlen]; exact hk')
      rw [h1] at this; cases this
      exact oneCell_of g4 (List.all_eq_true.1 (hco q (List.mem_of_getElem? g1)) r (List.mem_of_getElem? g2))
  have empty : ∀ (ad : Option Addr) (c : Nat), ys = [] → ∃ news, (Builtin.firstCells sz ys.length (.slice ad ys.length c)).run P w = .ok news w ∧ news.size = ys.length * sz ∧ CellsRep β (okB E.X β H) w news sz ys ∧ ((∀ q ∈ ys, q.cells.all cellOk = true) → ∀ u ∈ news.toList, u.oneCell' = true) := by
    intro ad c h0
    subst h0
    refine ⟨#[], ?_, by simp, fun i q hq => by simp at hq, by simp⟩
    cases ad <;> simp [Builtin.firstCells, loadCells, loadCellsFrom]
  unfold elems at he
  split at he
  · cases he
    obtain ⟨news, h1, h2⟩ := empty none 0 rfl
    exact ⟨none, 0, news, hv.nl_inv, by rw [hv.nl_inv]; exact h1, h2⟩
  · rename_i tg xs
    cases he
    obtain ⟨ad, c, rfl, hc, hx⟩ := hv.sl_inv
    by_cases h0 : ys = []
    · obtain ⟨news, h1, h2⟩ := empty ad c h0
      exact ⟨ad, c, news, rfl, h1, h2⟩
    · obtain ⟨g, b, sz', cv, rfl, hg, hgl, _, hss, hm, hr⟩ := hx h0
      have : sz' = sz := by
        have hpos : 0 < ys.length := List.length_pos_iff.2 h0
        rw [← hss 0 _ (List.getElem?_eq_getElem hpos)]
        exact hsz _ (List.getElem_mem hpos)
      subst this
      obtain ⟨news, h1, h2⟩ := key g b c (fun i q j r hq hj => ⟨cv i j, hm i q j hq (by rw [← hss i q hq]; exact (List.getElem?_eq_some_iff.1 hj).1), hr i q j r hq hj⟩)
      exact ⟨_, c, news, rfl, h1, h2⟩
  · rename_i u st m
    split at he
    · rename_i zz es hes
      split at he
      · rename_i hle
        cases he
        obtain ⟨p, ad, c, hp, rfl, ha, hc, _⟩ := hv.rf_inv
        have hl : ((es.drop st).take m).length = m := by simp; omega
        rw [hl] at empty key ⊢
        by_cases h0 : m = 0
        · obtain ⟨news, h1, h2⟩ := empty ad c (List.length_eq_zero_iff.1 (by omega))
          exact ⟨ad, c, news, rfl, h1, h2⟩
        · have had := ha (.inl h0)
          subst had
          obtain ⟨p', hp', _, _, _, hx⟩ := hs.dom _ _ hes
          rw [hp] at hp'; cases hp'
          have hget : ∀ i q, ((es.drop st).take m)[i]? = some q → es[st + i]? = some q := by
            intro i q hq
            rw [List.getElem?_take] at hq
            split at hq
            · rwa [List.getElem?_drop] at hq
            · cases hq
          have : p.sz = sz := by
            have hpos : 0 < ((es.drop st).take m).length := by omega
            have h1 := hget 0 _ (List.getElem?_eq_getElem hpos)
            rw [← (hx _ _ h1).1]
            exact hsz _ (List.getElem_mem hpos)
          obtain ⟨news, h1, h2⟩ := key p.g (p.b + st * p.sz) c (fun i q j r hq hj => by
            obtain ⟨u, hu, hr⟩ := (hx _ _ (hget i q hq)).2 j r hj
            refine ⟨u, ?_, hr⟩
            rw [← hu, ← this]; congr 2; rw [Nat.add_mul]; simp only [Nat.add_assoc])
          exact ⟨_, c, news, rfl, h1, h2⟩
      · cases he
    · cases he
  · cases he

theorem run_append (t u ty e e2 : TypeId) (inf : TypeInfo) (ht : P.underlying t = some (.slice e)) (hu : P.underlying u = some (.slice e2)) (hi : P.info? e = some inf) (base : Option Addr) (sLen sCap n : Nat) (ad : Option Addr) (c : Nat)
    (news : Array Value) (w : World) (hn : (Builtin.firstCells inf.size n (.slice ad n c)).run P w = .ok news w) :
    (sLen + n ≤ sCap → (Builtin.append_ #[t, u] ty #[.slice base sLen sCap, .slice ad n c]).run P w =
      (match base with | some a => (storeCells (a.add (sLen * inf.size)) news.toList).run P w | none => .ok () w).andThen fun _ w => .ok (.slice base (sLen + n) sCap) w) := by
  intro hle
  cases base with
  | none => simp [Builtin.append_, run_underlying ht, run_underlying hu, sizeOf, typeInfo, hi, Builtin.lenOf, hle, hn]
  | some b => simp [Builtin.append_, run_underlying ht, run_underlying hu, sizeOf, typeInfo, hi, Builtin.lenOf, hle, hn]

theorem run_append_grow (t u ty e e2 : TypeId) (inf : TypeInfo) (ht : P.underlying t = some (.slice e)) (hu : P.underlying u = some (.slice e2)) (hi : P.info? e = some inf) (base : Option Addr) (sLen sCap n : Nat) (ad : Option Addr) (c : Nat)
    (old news : Array Value) (z : Value) (w : World) (hz : inf.zero = some z) (hn : (Builtin.firstCells inf.size n (.slice ad n c)).run P w.drew = .ok news w.drew) (ho : (Builtin.firstCells inf.size sLen (.slice base sLen sCap)).run P w.drew = .ok old w.drew)
    (hlt : ¬ sLen + n ≤ sCap) (h63 : sLen + n ≤ 9223372036854775807) (hb : (sLen + n) * inf.bytes ≤ maxB) :
    ∃ cap w', (Builtin.append_ #[t, u] ty #[.slice base sLen sCap, .slice ad n c]).run P w = .ok (.slice (some ⟨w.heap.size, 0, none⟩) (sLen + n) cap) w' ∧
      Grew w w' (old ++ news ++ Builtin.zeroCells z.cells (cap - (sLen + n))) e ∧ sLen + n ≤ cap ∧ cap ≤ maxLen := by
  have hfit : ¬ Builtin.nextslicecap (sLen + n) sCap * inf.bytes > 2 ^ 48 := by
    have := growslice_fits (need := sLen + n) (old := sCap) (bytes := inf.bytes) (by omega) (by simpa [maxB] using hb)
    have e48 : 2 ^ 48 = 281474976710656 := by decide
    omega
  refine ⟨grownCap w (sLen + n) sCap e, w.drew.alloc (.cells (old ++ news ++ Builtin.zeroCells z.cells (grownCap w (sLen + n) sCap e - (sLen + n))) e), ?_, ⟨rfl, rfl, rfl, rfl⟩, grownCap_ge _ _ _ _, grownCap_le_maxLen _ _ _ _ (by simpa [maxLen] using h63)⟩
  have hcond : ¬ ((((sLen + n : Nat) : Int) > IntKind.i64.max) ∧ (false = true ∨ inf.bytes = 0)) := by
    intro ⟨h1, _⟩
    rw [IntKind.max_i64] at h1
    omega
  have h64 : ¬ (9223372036854775807 : Int) < ((sLen : Int) + (n : Int)) := by omega
  have hfit' : ¬ 281474976710656 < Builtin.nextslicecap (sLen + n) sCap * inf.bytes := by
    have e48 : 2 ^ 48 = 281474976710656 := by decide
    omega
  simp [Builtin.append_, run_underlying ht, run_underlying hu, sizeOf, typeInfo, hi, Builtin.lenOf, hlt, h64, hfit', Question.forced, hn, ho, zeroValue, hz, newRow, grownCap]

theorem CellsRep.append {β : Bt} {ok : Nat → Prop} {w : World} {c d r : Array Value} {sz : Nat} {es ys : List AV} (h1 : CellsRep β ok w c sz es) (hc : c.size = es.length * sz) (h2 : CellsRep β ok w d sz ys) :
    CellsRep β ok w (c ++ d ++ r) sz (es ++ ys) := by
  intro i q hq
  by_cases hi : i < es.length
  · rw [List.getElem?_append_left hi] at hq
    obtain ⟨g1, g2⟩ := h1 i q hq
    refine ⟨g1, fun j y hj => ?_⟩
    obtain ⟨v, hv, hr⟩ := g2 j y hj
    have hlt : i * sz + j < c.size := (Array.getElem?_eq_some_iff.1 hv).1
    exact ⟨v, by rw [Array.append_assoc, Array.getElem?_append_left hlt]; exact hv, hr⟩
  · rw [List.getElem?_append_right (by omega)] at hq
    obtain ⟨g1, g2⟩ := h2 _ q hq
    refine ⟨g1, fun j y hj => ?_⟩
    obtain ⟨v, hv, hr⟩ := g2 j y hj
    have hlt : (i - es.length) * sz + j < d.size := (Array.getElem?_eq_some_iff.1 hv).1
    have e : i * sz + j = c.size + ((i - es.length) * sz + j) := by
      rw [hc, ← Nat.add_assoc, ← Nat.add_mul]; congr 2; omega
    refine ⟨v, ?_, hr⟩
    rw [Array.append_assoc, e, Array.getElem?_append_right (by omega), Nat.add_sub_cancel_left, Array.getElem?_append_left hlt]
    exact hv

theorem size_zeroCells' (z : Array Value) (n : Nat) : (Builtin.zeroCells z n).size = n * z.size := by simp [Builtin.zeroCells]

theorem op_app (h : Sim E β N a w σ) (hf : β tok = none) (htok : tok < σ.n) (hE : E.n ≤ tok) {c : Call} {t u e e2 : TypeId} {y z : Operand} {y' z' : AO} {zv : AV} {inf : TypeInfo}
    (ho : o.op = .call c) (hcal : c.callee = .builtin .append) (hargs : c.args.toList = [y, z]) (hts : c.argTypes.toList = [t, u]) (ht : P.underlying t = some (.slice e)) (hu : P.underlying u = some (.slice e2))
    (hzo : zeroOf P e = some zv) (hi : P.info? e = some inf) (hy : copd y = some y') (hz : copd z = some z') (hr : (AOp.app inf.size inf.bytes y' z').run σ.fr σ.H tok = some (x, H')) :
    Res E β w σ tok ((execOp a.eval o).run P w) x H' := by
  have e1 : c.args = #[y, z] := by rw [← hargs]
  have e2' : c.argTypes = #[t, u] := by rw [← hts]
  obtain ⟨inf', vz, g1, g2, g3, g4, g5, g6⟩ := zeroOf_info hzo
  rw [hi] at g1; cases g1
  have run : ∀ v w', (Builtin.append_ #[t, u] o.type #[a.eval y, a.eval z]).run P w = .ok v w' → (execOp a.eval o).run P w = .ok (.value v) w' := by
    intro v w' hv
    simp [execOp, ho, resolve, hcal, e1, e2', invoke, builtin, hv]
  simp only [AOp.run] at hr
  split at hr
  · cases hr
  · rename_i ys hys
    split at hr
    · rename_i hall
      have hszc : ∀ q ∈ ys, q.cells.length = inf.size ∧ q.cells.all cellOk = true := by
        intro q hq
        have := List.all_eq_true.1 hall q hq
        simpa using this
      have hsz : ∀ q ∈ ys, q.cells.length = inf.size := fun q hq => (hszc q hq).1
      obtain ⟨ad, cp, news, hzv, hnews, hnsz, hnrep, hone⟩ := elems_run (P := P) h.hs (opd_rep h hz) hys hsz
      have hd : Same w w.drew := ⟨rfl, rfl, rfl, rfl⟩
      have hsd := h.hs.same hd
      obtain ⟨ad2, cp2, news2, hzv2, hnews2, hnsz2, hnrep2, _⟩ := elems_run (P := P) hsd ((opd_rep h hz).stp (hd.stp β (okB E.X β σ.H))) hys hsz
      rw [hzv] at hzv2
      obtain ⟨rfl, rfl⟩ : ad2 = ad ∧ cp2 = cp := by cases hzv2; exact ⟨rfl, rfl⟩
      rw [hzv] at hnews hnews2
      have hcr : CellsRep β (okB E.X β σ.H) w news2 inf.size ys := by
        intro i q hq
        refine ⟨(hnrep2 i q hq).1, fun j r hj => ?_⟩
        obtain ⟨v, hv, hrr⟩ := (hnrep2 i q hq).2 j r hj
        exact ⟨v, hv, hrr.stp (Same.stp (w := w.drew) (w' := w) ⟨rfl, rfl, rfl, rfl⟩ β _)⟩
      split at hr
      · rename_i hyv
        have hn := (hyv ▸ opd_rep h hy : Rep _ _ _ _ .nl).nl_inv
        split at hr
        · rename_i hemp
          cases hr
          have hy0 : ys = [] := by simpa using hemp
          subst hy0
          have := run_append (P := P) t u o.type e e2 inf ht hu hi none 0 0 0 ad2 cp2 news w hnews (Nat.le_refl 0)
          refine res_pure h (run _ _ ?_) .nl
          rw [hn, hzv]; exact this
        · rename_i hemp
          split at hr
          · rename_i hb
            cases hr
            have hpos : 0 < ys.length := List.length_pos_iff.2 (by simpa using hemp)
            have hold : (Builtin.firstCells inf.size 0 (.slice none 0 0)).run P w.drew = .ok #[] w.drew := by simp [Builtin.firstCells]
            obtain ⟨cap, w', r1, r2, r3, r4⟩ := run_append_grow (P := P) t u o.type e e2 inf ht hu hi none 0 0 ys.length ad2 cp2 #[] news2 vz w g2 hnews2 hold (by omega) (by omega) (by simpa using hb.2)
            simp only [Nat.zero_add] at r1 r2 r3 r4
            refine res_grew h hf htok hE r2 (sz := inf.size) (cap := cap) (es := ys) r3 ?_ r4 ?_ (run _ _ (by rw [hn, hzv]; exact r1)) (.inr ⟨ys.length, rfl, rfl, r3⟩)
            · simp only [Array.size_append, size_zeroCells', g5, hnsz2, Array.size_empty, Nat.zero_add, ← Nat.add_mul]
              congr 1; omega
            · have := CellsRep.append (c := #[]) (r := Builtin.zeroCells vz.cells (cap - ys.length)) (es := []) (sz := inf.size) (fun i q hq => by simp at hq) (by simp) hcr
              simpa using this
          · cases hr
      · rename_i tk m hyv
        obtain ⟨p, ad0, c0, hp, hv, ha, hc, h0⟩ := (hyv ▸ opd_rep h hy : Rep _ _ _ _ (.rf tk 0 m)).rf_inv
        have had := ha (.inr rfl)
        simp only [Nat.zero_mul] at had
        subst had
        split at hr
        · rename_i zz es0 hes
          split at hr
          · rename_i hcd
            obtain ⟨hel0, h63, hby, rfl, hsz0⟩ := hcd
            obtain ⟨p', hp', hd0, hpz0, hlen0, hx0⟩ := h.hs.dom _ _ hes
            rw [hp] at hp'; cases hp'
            dsimp only at hpz0 hlen0 hx0
            obtain ⟨hfull, hpz⟩ := hpz0.resolve_right hsz0
            obtain rfl := h0 hfull rfl
            obtain ⟨hxx, cur, el, hg, hcs0, hcap⟩ := h.hs.blk _ _ hp
            obtain ⟨hb0, hcs⟩ := hcs0.2 hfull
            rw [hb0] at hv ha hx0
            simp only [Nat.zero_add] at hv hx0
            obtain ⟨es, hese⟩ : ∃ es, es = es0.take m := ⟨_, rfl⟩
            rw [← hese] at hr
            have hel : es.length = m := by rw [hese, List.length_take]; omega
            have hlen : es.length ≤ p.cap := by omega
            have hx : ∀ (i : Nat) (x : AV), es[i]? = some x → x.cells.length = p.sz ∧ ∀ (j : Nat) (y : AV), x.cells[j]? = some y → ∃ v, w.cell? ⟨p.g, i * p.sz + j, none⟩ = some v ∧ Rep β (okB E.X β σ.H) w v y := by
              intro i x hi
              have hlt : i < m := by rw [← hel]; exact (List.getElem?_eq_some_iff.1 hi).1
              rw [hese, List.getElem?_take, if_pos hlt] at hi
              exact hx0 i x hi
            have hE2 : tok ≠ tk := fun e => by rw [e, hp] at hf; cases hf
            split at hr
            · rename_i hemp
              cases hr
              have hy0 : ys = [] := by simpa using hemp
              subst hy0
              have hn0 : news = #[] := Array.eq_empty_of_size_eq_zero (by simpa using hnsz)
              have := run_append (P := P) t u o.type e e2 inf ht hu hi (some ⟨p.g, 0, none⟩) m p.cap 0 ad2 cp2 news w hnews (by omega)
              refine res_pure h (v := .slice (some ⟨p.g, 0, none⟩) m p.cap) (run _ _ ?_) (.rf tk 0 m _ _ p hp (fun _ => by simp [hb0]) hc (fun _ _ => rfl))
              rw [hv, hzv]
              rw [List.length_nil, this]
              simp [hn0, storeCells]
            · rename_i hemp
              cases hr
              by_cases hroom : m + ys.length ≤ p.cap
              · -- in place
                have hra := run_append (P := P) t u o.type e e2 inf ht hu hi (some ⟨p.g, 0, none⟩) m p.cap ys.length ad2 cp2 news w hnews hroom
                have hbnd : m * inf.size + news.size ≤ cur.size := by
                  rw [hnsz, hcs, hpz, ← Nat.add_mul]; exact Nat.mul_le_mul_right _ hroom
                have hst := run_storeCells_cells (P := P) p.g (m * inf.size) news.toList 0 w
                  (fun j hj => by
                    have : m * inf.size + 0 + j < cur.size := by simp at hj; omega
                    simp [World.cell?, hg]; simpa using this)
                  (fun j hj => by simp [World.frozen?, hg]) (hone fun q hq => (hszc q hq).2)
                simp only [Nat.add_zero] at hst
                have hw := wrote_setCells news.toList (m * inf.size) w hg
                have hnew : CellsRep β (okB E.X β σ.H) w (splice cur (m * inf.size) news.toList) p.sz (es ++ ys) := by
                  rw [hpz]
                  intro i q hq
                  by_cases hil : i < es.length
                  · rw [List.getElem?_append_left hil] at hq
                    refine ⟨by rw [(hx i q hq).1, hpz], fun j r hj => ?_⟩
                    obtain ⟨v, hv', hrr⟩ := (hx i q hq).2 j r hj
                    have hjl : j < inf.size := by rw [← hpz, ← (hx i q hq).1]; exact (List.getElem?_eq_some_iff.1 hj).1
                    have hlt := row_lt hil hjl
                    refine ⟨v, ?_, hrr⟩
                    rw [splice_get, if_neg (by rw [← hel]; omega)]
                    rw [hpz] at hv'
                    simpa [World.cell?, hg] using hv'
                  · rw [List.getElem?_append_right (by omega)] at hq
                    obtain ⟨g7, g8⟩ := hnrep _ q hq
                    refine ⟨g7, fun j r hj => ?_⟩
                    obtain ⟨v, hv', hrr⟩ := g8 j r hj
                    have hlt : (i - es.length) * inf.size + j < news.size := (Array.getElem?_eq_some_iff.1 hv').1
                    have e4 : i * inf.size + j = m * inf.size + ((i - es.length) * inf.size + j) := by
                      rw [← Nat.add_assoc, ← Nat.add_mul]; congr 2; omega
                    refine ⟨v, ?_, hrr⟩
                    rw [e4, splice_get, if_pos (by simp; omega), Nat.add_sub_cancel_left]
                    simpa using hv'
                refine ⟨_, .slice (some ⟨p.g, 0, none⟩) (m + ys.length) p.cap, w.setCells p.g (m * inf.size) news.toList, β.hand tk tok p, run _ _ ?_, .inl rfl,
                  h.hs.handon hw hes hp hf htok (fun cur0 e1 h1 => by rw [hg] at h1; cases h1; exact splice_size ..) (.inl ⟨hfull, hpz⟩) (by simp; omega) (hnew.toB hb0), hw.hand_stp hes hp hf, h.cx.handon hw hes hp hf hE, ?_, ?_⟩
                · rw [hv, hzv, hra]
                  simp only [Addr.add_lit, Nat.zero_add, hst, Result.andThen_ok]
                · exact .rf tok 0 (m + ys.length) _ _ p (hand_at hE2).1 (fun _ => by simp [hb0]) hroom (fun _ _ => rfl)
                · intro k hk hb
                  rw [hand_ne hk (fun e => by rw [e, hp] at hb; cases hb)]; exact hb
              · -- a new block
                have hall2 : ∀ q ∈ es, q.cells.length = inf.size := by
                  intro q hq
                  obtain ⟨i, hi2, rfl⟩ := List.getElem_of_mem hq
                  rw [(hx i _ (List.getElem?_eq_getElem hi2)).1, hpz]
                have hel2 : elems σ.H (.rf tk 0 m) = some es := by
                  simp only [elems, hes]
                  rw [if_pos (by omega), List.drop_zero, hese]
                obtain ⟨ad3, cp3, old, hov, hold, hosz, horep, _⟩ := elems_run (P := P) hsd ((hyv ▸ opd_rep h hy : Rep _ _ _ _ (.rf tk 0 m)).stp (hd.stp β (okB E.X β σ.H))) hel2 hall2
                rw [hv, hel] at hov
                obtain ⟨rfl, rfl⟩ : ad3 = some ⟨p.g, 0, none⟩ ∧ cp3 = p.cap := by cases hov; exact ⟨rfl, rfl⟩
                rw [hv, hel] at hold
                obtain ⟨cap, w', r1, r2, r3, r4⟩ := run_append_grow (P := P) t u o.type e e2 inf ht hu hi (some ⟨p.g, 0, none⟩) m p.cap ys.length ad2 cp2 old news2 vz w g2 hnews2 hold hroom (by omega) (by simpa using hby)
                have hor : CellsRep β (okB E.X β σ.H) w old inf.size es := by
                  intro i q hq
                  refine ⟨(horep i q hq).1, fun j r hj => ?_⟩
                  obtain ⟨v, hv', hrr⟩ := (horep i q hq).2 j r hj
                  exact ⟨v, hv', hrr.stp (Same.stp (w := w.drew) (w' := w) ⟨rfl, rfl, rfl, rfl⟩ β _)⟩
                have hless : ∀ k b, (σ.H.off tk) k = some b → σ.H k = some b := by
                  intro k b hb
                  by_cases hk : k = tk
                  · subst hk; rw [Heap.off_self] at hb; cases hb
                  · rwa [Heap.off_ne _ hk] at hb
                have hL := h.less hless
                have hsome : ∀ k b, (σ.H.off tk) k = some b → (σ.H k).isSome = true := fun k b hb => by rw [hless k b hb]; rfl
                have hmono : CellsRep β (okB E.X β (σ.H.off tk)) w (old ++ news2 ++ Builtin.zeroCells vz.cells (cap - (m + ys.length))) inf.size (es ++ ys) := by
                  have := CellsRep.append (r := Builtin.zeroCells vz.cells (cap - (m + ys.length))) hor (by rw [hosz]) hcr
                  intro i q hq
                  refine ⟨(this i q hq).1, fun j r hj => ?_⟩
                  obtain ⟨v, hv', hrr⟩ := (this i q hq).2 j r hj
                  exact ⟨v, hv', hrr.stp (Stp.less hsome)⟩
                obtain ⟨nx, v, w2, β2, q1, q2, q3, q4, q5, q6, q7⟩ := res_grew hL hf htok hE r2 (sz := inf.size) (cap := cap) (es := es ++ ys) (by simp; omega)
                  (by simp only [Array.size_append, size_zeroCells', g5, hnsz2, hosz, ← Nat.add_mul]; congr 1; omega) r4 hmono (run _ _ (by rw [hv, hzv]; exact r1)) (.inr ⟨m + ys.length, rfl, rfl, r3⟩)
                exact ⟨nx, v, w2, β2, q1, q2, q3, ⟨q4.tok, fun t' p' hb hdd hok => q4.tag t' p' hb hdd (okB.less hsome hok), q4.size, fun g hgl hok => q4.okm g hgl (okB.less hsome hok), fun g o' hgl hok => q4.cell g o' hgl (okB.less hsome hok)⟩, q5, q6, q7⟩
          · cases hr
        · cases hr
      · cases hr
    · cases hr

end ops
end Go.Am
/-! Every operation that is no call of a function: the machine does what the abstract machine says. -/
namespace Go.Am
set_option linter.unusedVariables false
set_option linter.unusedSimpArgs false

section ops
variable {P : Program} {rw : Nat → Bool} {rv : Bool} {E : Entry} {β : Bt} {N : Nat} {a : Act} {w w' : World} {σ : St} {tok : Nat} {x : AV} {H' : Heap} {o : Oper}

theorem map_some {α γ : Type} {f : α → γ} {o : Option α} {c : γ} (h : o.map f = some c) : ∃ b, o = some b ∧ f b = c := by
  cases o with
  | none => cases h
  | some b => cases h; exact ⟨b, rfl, rfl⟩

theorem op_sound (h : Sim E β N a w σ) (hf : β tok = none) (htok : tok < σ.n) (hE : E.n ≤ tok) {aop : AOp} (hc : cop1 P rw rv o.op = some aop) (hr : aop.run σ.fr σ.H tok = some (x, H')) :
    Res E β w σ tok ((execOp a.eval o).run P w) x H' := by
  unfold cop1 at hc
  split at hc
  · rename_i y ho
    obtain ⟨z, hz, rfl⟩ := map_some hc
    cases hr; exact op_mv h (.inl ho) hz
  · rename_i y ho
    obtain ⟨z, hz, rfl⟩ := map_some hc
    cases hr; exact op_mv h (.inr ho) hz
  · rename_i c y z ho
    split at hc
    · rename_i h1 h2 h3
      cases hc
      simp only [AOp.run] at hr
      split at hr
      · rename_i q hq
        cases hr; exact op_pick h ho h1 h2 h3 hq
      · cases hr
    · cases hc
  · rename_i t ho
    obtain ⟨z, hz, rfl⟩ := map_some hc
    cases hr; exact op_new h hf htok hE ho hz
  · rename_i t y ho
    obtain ⟨z, hz, rfl⟩ := map_some hc
    simp only [AOp.run] at hr
    split at hr
    · cases hr
    · rename_i hne
      cases hr
      exact op_box h hf htok hE ho hz hne
  · rename_i t ps ho
    split at hc
    · rename_i fs z ht hz
      split at hc
      · rename_i hall
        obtain ⟨qs, hq, rfl⟩ := map_some hc
        simp only [AOp.run] at hr
        obtain ⟨ds, hd, he⟩ := map_some hr
        cases he; exact op_bldS h ho ht hz hall hq hd
      · cases hc
    · rename_i n e z ht hz
      split at hc
      · rename_i b s hs
        obtain ⟨qs, hq, rfl⟩ := map_some hc
        simp only [AOp.run] at hr
        obtain ⟨ds, hd, he⟩ := map_some hr
        cases he; exact op_bldA h ho ht hz hs hq hd
      · cases hc
    · cases hc
  · rename_i t n ps ho
    split at hc
    · rename_i e ht
      split at hc
      · rename_i z inf hz hi
        split at hc
        · rename_i hlim
          obtain ⟨qs, hq, rfl⟩ := map_some hc
          simp only [AOp.run] at hr
          obtain ⟨ds, hd, he⟩ := map_some hr
          cases he; exact op_bsl h hf htok hE ho ht hz hi hlim hq hd
        · cases hc
      · cases hc
    · cases hc
  · rename_i t y ho
    split at hc
    · rename_i s z hs hz
      cases hc
      simp only [AOp.run] at hr
      split at hr
      · rename_i e of hl
        obtain ⟨v, hp, he⟩ := map_some hr
        cases he; exact op_ld h ho hs hz hl hp
      · cases hr
    · cases hc
  · rename_i t y z ho
    split at hc
    · rename_i s y' z' hs hy hz
      cases hc
      simp only [AOp.run] at hr
      split at hr
      · rename_i u i of hyv
        split at hr
        · rename_i zz es hes
          split at hr
          · rename_i e he
            split at hr
            · rename_i hcd
              cases hr
              exact op_st h ho hs hy hz hyv hes he hcd.1 hcd.2.1 hcd.2.2
            · cases hr
          · cases hr
        · cases hr
      · cases hr
    · cases hc
  · rename_i y ho
    obtain ⟨z, hz, rfl⟩ := map_some hc
    simp only [AOp.run] at hr
    split at hr
    · rename_i e k he
      cases hr
      have := op_nck (P := P) (tok := tok) h ho hz (.inl ⟨e, k, he⟩)
      rwa [he] at this
    · rename_i t i k he
      cases hr
      have := op_nck (P := P) (tok := tok) h ho hz (.inr ⟨t, i, k, he⟩)
      rwa [he] at this
    · cases hr
  · rename_i op t y z t2 ho
    split at hc
    · rename_i y' z' hy hz
      split at hc
      · rename_i hb
        split at hc
        · cases hc
          simp only [AOp.run] at hr
          split at hr
          · rename_i p q hp hq
            cases hr; exact op_beq (ne := false) h ho hb hy hz hp hq
          · cases hr
        · cases hc
          simp only [AOp.run] at hr
          split at hr
          · rename_i p q hp hq
            cases hr; exact op_beq (ne := true) h ho hb hy hz hp hq
          · cases hr
        · cases hc
      · split at hc
        · cases hc
          simp only [AOp.run] at hr
          obtain ⟨v, hv, he⟩ := map_some hr
          cases he; exact op_bin h ho hy hz hv
        · cases hc
    · cases hc
  · rename_i t y ho
    obtain ⟨z, hz, rfl⟩ := map_some hc
    simp only [AOp.run] at hr
    split at hr
    · rename_i b hb
      cases hr; exact op_not h ho hz hb
    · cases hr
  · rename_i t y ho
    obtain ⟨z, hz, rfl⟩ := map_some hc
    simp only [AOp.run] at hr
    split at hr
    · rename_i k n hb
      cases hr; exact op_neg h ho hz hb
    · cases hr
  · rename_i s d y ho
    split at hc
    · rename_i k0 k hs hd
      obtain ⟨z, hz, rfl⟩ := map_some hc
      simp only [AOp.run] at hr
      split at hr
      · rename_i k1 n hb
        cases hr; exact op_cvt h ho hs hd hz hb
      · cases hr
    · cases hc
  · rename_i y i ho
    obtain ⟨z, hz, rfl⟩ := map_some hc
    simp only [AOp.run] at hr
    split at hr
    · rename_i vs hv
      split at hr
      · rename_i v hvi
        cases hr; exact op_ext h ho hz hv hvi
      · cases hr
    · cases hr
  · rename_i f first caps ho
    split at hc
    · rename_i hf0
      obtain ⟨cs, hcs, rfl⟩ := map_some hc
      cases hr; exact op_mkf h ho hf0 hcs
    · cases hc
  · rename_i t y c ho
    split at hc
    · rename_i e ht
      split at hc
      · rename_i z inf y' c' hz hi hy hcc
        cases hc
        simp only [AOp.run] at hr
        split at hr
        · rename_i k1 l k2 cp hl hcp
          split at hr
          · rename_i hcd
            cases hr; exact op_mks h hf htok hE ho ht hz hi hy hcc hl hcp hcd.1 hcd.2.1 hcd.2.2.1 hcd.2.2.2
          · cases hr
        · cases hr
      · cases hc
    · cases hc
  · rename_i t y lo hi ho
    split at hc
    · rename_i e ht
      split at hc
      · rename_i b s y' lo' hi' hs hy hlo hhi
        cases hc
        exact op_slc h ho ht hs hy hlo hhi hr
      · cases hc
    · cases hc
  · rename_i t y n ho
    split at hc
    · rename_i fs ht
      split at hc
      · rename_i f y' hfn hy
        split at hc
        · rename_i b s hs
          split at hc
          · cases hc
          · rename_i hs0
            cases hc
            simp only [AOp.run] at hr
            split at hr
            · rename_i e of he
              cases hr; exact (op_fad h ho ht hfn hs hs0 hy).1 e of he
            · rename_i u i of he
              cases hr; exact (op_fad h ho ht hfn hs hs0 hy).2 u i of he
            · cases hr
        · cases hc
      · cases hc
    · cases hc
  · rename_i t y n ho
    split at hc
    · rename_i fs ht
      split at hc
      · rename_i f y' hfn hy
        obtain ⟨s, hs, rfl⟩ := map_some hc
        simp only [AOp.run] at hr
        split at hr
        · rename_i cs hv
          obtain ⟨v, hp, he⟩ := map_some hr
          cases he; exact op_fld h ho ht hfn hs hy hv hp
        · cases hr
      · cases hc
    · cases hc
  · rename_i t y z ho
    split at hc
    · rename_i e y' z' ht hy hz
      split at hc
      · rename_i b s hs
        cases hc
        simp only [AOp.run] at hr
        split at hr
        · rename_i k n hzv
          split at hr
          · rename_i tg xs hyv
            split at hr
            · rename_i hn
              split at hr
              · rename_i el he
                split at hr
                · rename_i hsz
                  cases hr; exact op_iad_sl h ho ht hs hy hz hzv hyv hn he hsz
                · cases hr
              · cases hr
            · cases hr
          · rename_i u st m hyv
            split at hr
            · rename_i zz es hes
              split at hr
              · rename_i hn
                split at hr
                · rename_i el he
                  split at hr
                  · rename_i hsz
                    cases hr; exact op_iad_rf h ho ht hs hy hz hzv hyv hn.1 hn.2 hes he hsz
                  · cases hr
                · cases hr
              · cases hr
            · cases hr
          · cases hr
        · cases hr
      · cases hc
    · rename_i n e y' z' ht hy hz
      split at hc
      · rename_i b s hs
        cases hc
        simp only [AOp.run] at hr
        split at hr
        · rename_i k j hzv
          split at hr
          · rename_i hj
            split at hr
            · rename_i el of hyv
              cases hr; exact (op_aad h ho ht hs hy hz hzv hj.1 hj.2).1 _ _ hyv
            · rename_i u i of hyv
              cases hr; exact (op_aad h ho ht hs hy hz hzv hj.1 hj.2).2 _ _ _ hyv
            · cases hr
          · cases hr
        · cases hr
      · cases hc
    · cases hc
  · rename_i t y z ho
    split at hc
    · rename_i y' z' ht hy hz
      cases hc
      simp only [AOp.run] at hr
      split at hr
      · rename_i k n s hzv hyv
        split at hr
        · rename_i hn
          split at hr
          · rename_i c hcc
            cases hr; exact op_sidx h ho ht hy hz hzv hyv hn hcc
          · cases hr
        · cases hr
      · cases hr
    · cases hc
  · rename_i c ho
    split at hc
    · rename_i hcal
      split at hc
      · rename_i y t hargs hts
        split at hc
        · rename_i e ht
          obtain ⟨z, hz, rfl⟩ := map_some hc
          obtain ⟨l1, l2, l3, l4⟩ := op_len (P := P) (tok := tok) h ho hcal hargs hts hz
          simp only [AOp.run] at hr
          split at hr
          · rename_i hv; cases hr; exact l1 e ht hv
          · rename_i tg xs hv; cases hr; exact l2 e tg xs ht hv
          · rename_i u st m hv; cases hr; exact l3 e u st m ht hv
          · cases hr
        · rename_i ht
          obtain ⟨z, hz, rfl⟩ := map_some hc
          obtain ⟨l1, l2, l3, l4⟩ := op_len (P := P) (tok := tok) h ho hcal hargs hts hz
          simp only [AOp.run] at hr
          split at hr
          · rename_i s hv; cases hr; exact l4 s ht hv
          · cases hr
        · cases hc
      · cases hc
    · rename_i hcal
      split at hc
      · rename_i y z t u hargs hts
        split at hc
        · rename_i e e2 ht hu
          split at hc
          · rename_i zv inf y' z' hzo hi hy hz
            cases hc
            exact op_app h hf htok hE ho hcal hargs hts ht hu hzo hi hy hz hr
          · cases hc
        · cases hc
      · cases hc
    · obtain ⟨z, hz, rfl⟩ := map_some hc
      cases hr
    · obtain ⟨z, hz, rfl⟩ := map_some hc
      cases hr
    · cases hc
  · cases hc

end ops
end Go.Am
/-! Contracts of calls. -/
namespace Go.Am
set_option linter.unusedVariables false

theorem Ctx.stp {X : Nat → Prop} {β β' : Bt} {H H' : Heap} {n n' : Nat} {w w' : World} (hs : HSim X β w H n) (h : Ctx ⟨X, β, H, n, w⟩ β' w' H' n') : Stp β (okB X β H) w β' (okB X β' H') w' := by
  have hno : ∀ g, okB X β H g → ¬ (Entry.own ⟨X, β, H, n, w⟩ g) := fun g hg ⟨t, es, p, h1, h2, h3⟩ => hg.2 t es p h1 h2 h3
  refine ⟨h.tok, ?_, h.size, ?_, ?_⟩
  · intro t p hp hd hok
    refine h.keep t p hp ?_
    show H t = none
    cases hh : H t with
    | none => rfl
    | some es => exact absurd rfl (hok.2 t es p hh hp)
  · intro g hlt hg
    refine ⟨hg.1, fun t es p hes hp hpg => ?_⟩
    by_cases ht : t < n
    · have h1 := h.own t es ht hes
      have h2 := h.back t p ht hp
      simp only at h1 h2
      cases hb : β t with
      | none => rw [hb] at h2; cases h2
      | some p0 =>
        cases hh : H t with
        | none => rw [hh] at h1; cases h1
        | some es0 =>
          obtain ⟨p', hp', hg', _⟩ := h.tok t p0 hb
          rw [hp] at hp'; cases hp'
          exact hg.2 t es0 p0 hh hb (by rw [← hg', hpg])
    · exact hno g hg (by rw [← hpg]; exact h.new t p (by simp only; omega) hp (by simp only; omega))
  · intro g o hlt hg
    have := h.old g hlt (hno g hg)
    simp only at this
    simp [World.cell?, this]

theorem Ctx.trans {E : Entry} {β β' : Bt} {H H' : Heap} {n n' : Nat} {w w' : World} (h : Ctx E β w H n) (k : Ctx ⟨E.X, β, H, n, w⟩ β' w' H' n') : Ctx E β' w' H' n' := by
  have hown : ∀ g, g < E.w.heap.size → Entry.own ⟨E.X, β, H, n, w⟩ g → E.own g := by
    intro g hlt ⟨t, es, p, h1, h2, h3⟩
    simp only at h1 h2
    by_cases ht : t < E.n
    · have g1 := h.own t es ht h1
      have g2 := h.back t p ht h2
      cases hb : E.β t with
      | none => rw [hb] at g2; cases g2
      | some p0 =>
        cases hh : E.H t with
        | none => rw [hh] at g1; cases g1
        | some es0 =>
          obtain ⟨p', hp', hg', _⟩ := h.tok t p0 hb
          rw [h2] at hp'; cases hp'
          exact ⟨t, es0, p0, hh, hb, by rw [← hg', h3]⟩
    · rw [← h3]; exact h.new t p (by omega) h2 (by omega)
  refine ⟨Nat.le_trans h.size k.size, k.os.trans h.os, k.tape.trans h.tape, k.output.trans h.output, Nat.le_trans h.le k.le, ?_, ?_, ?_, ?_, ?_, ?_, h.elt⟩
  · intro t p hp
    obtain ⟨p1, g1, g2, g3, g4, g5, g6⟩ := h.tok t p hp
    obtain ⟨p2, k1, k2, k3, k4, k5, k6⟩ := k.tok t p1 g1
    exact ⟨p2, k1, k2.trans g2, k3.trans g3, k4.trans g4, k5.trans g5, k6.trans g6⟩
  · intro t p hp hh
    have g1 := h.keep t p hp hh
    refine k.keep t p g1 ?_
    show H t = none
    cases hH : H t with
    | none => rfl
    | some es => have := h.own t es (h.elt t p hp) hH; rw [hh] at this; cases this
  · intro g hlt ho
    have h1 := h.old g hlt ho
    have h2 := k.old g (by have := h.size; simp only; omega) (fun hh => ho (hown g hlt hh))
    exact h2.trans h1
  · intro t es ht hes
    have := k.own t es (by have := h.le; simp only; omega) hes
    simp only at this
    cases hH : H t with
    | none => rw [hH] at this; cases this
    | some es0 => exact h.own t es0 ht hH
  · intro t p ht hp hlt
    by_cases htn : t < n
    · have h1 := k.back t p htn hp
      simp only at h1
      cases hb : β t with
      | none => rw [hb] at h1; cases h1
      | some p0 =>
        obtain ⟨p', hp', hg', _⟩ := k.tok t p0 hb
        rw [hp] at hp'; cases hp'
        rw [hg'] at hlt ⊢
        exact h.new t p0 ht hb hlt
    · exact hown p.g hlt (k.new t p (by simp only; omega) hp (by have := h.size; simp only; omega))
  · intro t p ht hp
    have h1 := k.back t p (by have := h.le; simp only; omega) hp
    simp only at h1
    cases hb : β t with
    | none => rw [hb] at h1; cases h1
    | some p0 => exact h.back t p0 ht hb

/-- A list of machine values stands for a list of values. -/
def LRep (β : Bt) (ok : Nat → Prop) (w : World) (vs : Array Value) (cs : List AV) : Prop :=
  vs.size = cs.length ∧ ∀ (j : Nat) (y : AV), cs[j]? = some y → Rep β ok w ((vs[j]?).getD undef) y

/-- THE CONTRACT OF A CALL: from these arguments and this own heap it returns, and what it returns and leaves meets Q. -/
def MC (P : Program) (f : Nat) (args : List AV) (H : Heap) (n : Nat) (Q : AV → Heap → Nat → Prop) : Prop :=
  (∃ fn, P.funcs[f]? = some fn ∧ fn.body.isSome = true ∧ (fn.name == "runtime.NumGoroutine") = false) ∧
  ∀ (X : Nat → Prop) (β : Bt) (w : World) (cargs : Array Value), HSim X β w H n → LRep β (okB X β H) w cargs args →
    Calls P f cargs w fun e w' => ∃ cv v β' H' n', e = .returned cv ∧ Q v H' n' ∧ HSim X β' w' H' n' ∧ Rep β' (okB X β' H') w' cv v ∧ Ctx ⟨X, β, H, n, w⟩ β' w' H' n'

theorem MC.mono {P : Program} {f : Nat} {args : List AV} {H : Heap} {n : Nat} {Q Q' : AV → Heap → Nat → Prop} (h : MC P f args H n Q) (hq : ∀ v H' n', Q v H' n' → Q' v H' n') : MC P f args H n Q' := by
  refine ⟨h.1, fun X β w cargs hs hr => ?_⟩
  refine Calls.mono (h.2 X β w cargs hs hr) ?_
  rintro e w' ⟨cv, v, β', H', n', h1, h2, h3⟩
  exact ⟨cv, v, β', H', n', h1, hq _ _ _ h2, h3⟩

end Go.Am
/-! A value seen as data: what own blocks hold becomes part of it. And calls that get data and give data. -/
namespace Go.Am
set_option linter.unusedVariables false

/-- `Vw H S T U v x`: seen over the heap H, the value v is x. S: the tokens that may be looked into; T k t: the tag k is given to token t; U: may a slice go untagged? -/
inductive Vw (H : Heap) (S : Nat → Prop) (T : Nat → Nat → Prop) (U : Prop) : AV → AV → Prop
  | top (v : AV) : Vw H S T U v .top
  | b (x : Bool) : Vw H S T U (.b x) (.b x)
  | i (k : IntKind) (m : Int) : Vw H S T U (.i k m) (.i k m)
  | s (x : ByteArray) : Vw H S T U (.s x) (.s x)
  | agg (cs ds : List AV) (hl : cs.length = ds.length) (h : ∀ (j : Nat) (x y : AV), cs[j]? = some x → ds[j]? = some y → Vw H S T U x y) : Vw H S T U (.agg cs) (.agg ds)
  | tup (cs ds : List AV) (hl : cs.length = ds.length) (h : ∀ (j : Nat) (x y : AV), cs[j]? = some x → ds[j]? = some y → Vw H S T U x y) : Vw H S T U (.tup cs) (.tup ds)
  | fn (f : Nat) (cs ds : List AV) (hl : cs.length = ds.length) (h : ∀ (j : Nat) (x y : AV), cs[j]? = some x → ds[j]? = some y → Vw H S T U x y) : Vw H S T U (.fn f cs) (.fn f ds)
  | nl : Vw H S T U .nl .nl
  | nlsl (t : Option Nat) : Vw H S T U .nl (.sl t [])
  | sl0 (t u : Option Nat) : Vw H S T U (.sl t []) (.sl u [])
  | rf0 (t s : Nat) (u : Option Nat) : Vw H S T U (.rf t s 0) (.sl u [])
  | sl (t u : Option Nat) (xs ys : List AV) (hu : u = none → U) (ht : ∀ k, u = some k → ∃ j, t = some j ∧ T k j) (hl : xs.length = ys.length)
      (hz : ∀ (j : Nat) (x y : AV), xs[j]? = some x → ys[j]? = some y → x.cells.length = y.cells.length)
      (h : ∀ (j : Nat) (x y : AV) (k : Nat) (p q : AV), xs[j]? = some x → ys[j]? = some y → x.cells[k]? = some p → y.cells[k]? = some q → Vw H S T U p q) : Vw H S T U (.sl t xs) (.sl u ys)
  | rf (t s n z : Nat) (es : List AV) (u : Option Nat) (ys : List AV) (hS : S t) (hH : H t = some (z, es)) (hn : s + n ≤ es.length) (hu : u = none → U) (ht : ∀ k, u = some k → T k t) (hl : ys.length = n)
      (hz : ∀ (j : Nat) (x y : AV), ((es.drop s).take n)[j]? = some x → ys[j]? = some y → x.cells.length = y.cells.length)
      (h : ∀ (j : Nat) (x y : AV) (k : Nat) (p q : AV), ((es.drop s).take n)[j]? = some x → ys[j]? = some y → x.cells[k]? = some p → y.cells[k]? = some q → Vw H S T U p q) : Vw H S T U (.rf t s n) (.sl u ys)
  | ad (t i o z : Nat) (es : List AV) (e e' : AV) (hS : S t) (hH : H t = some (z, es)) (he : es[i]? = some e) (hU : U) (hz : e.cells.length = e'.cells.length)
      (h : ∀ (k : Nat) (p q : AV), e.cells[k]? = some p → e'.cells[k]? = some q → Vw H S T U p q) : Vw H S T U (.ad t i o) (.pr e' o)
  | pr (e e' : AV) (o : Nat) (hU : U) (hz : e.cells.length = e'.cells.length) (h : ∀ (k : Nat) (p q : AV), e.cells[k]? = some p → e'.cells[k]? = some q → Vw H S T U p q) : Vw H S T U (.pr e o) (.pr e' o)

/-- What is seen so is what the machine holds. -/
theorem Vw.rep {X : Nat → Prop} {β β' : Bt} {H : Heap} {n : Nat} {w : World} {S : Nat → Prop} {T : Nat → Nat → Prop} {U : Prop} {ok' : Nat → Prop} {x y : AV} (h : Vw H S T U x y) (hs : HSim X β w H n)
    (hok : U → ∀ g, okB X β H g → ok' g) (hS : ∀ t b p, S t → H t = some b → β t = some p → ok' p.g)
    (hT : ∀ k t p, T k t → β t = some p → p.dead = false → ok' p.g ∧ ∃ p', β' k = some p' ∧ p'.g = p.g ∧ p'.dead = false) :
    ∀ {v : Value}, Rep β (okB X β H) w v x → Rep β' ok' w v y := by
  induction h with
  | top v => intro v _; exact .top _
  | b x => intro v hr; rw [hr.b_inv]; exact .b x
  | i k m => intro v hr; rw [hr.i_inv]; exact .i k m
  | s x => intro v hr; rw [hr.s_inv]; exact .s x
  | agg cs ds hl h ih =>
    intro v hr
    obtain ⟨vs, rfl, h1, h2⟩ := hr.agg_inv
    refine .agg vs ds (by omega) fun j y hy => ?_
    have hj : j < cs.length := by rw [hl]; exact (List.getElem?_eq_some_iff.1 hy).1
    exact ih j _ y (List.getElem?_eq_getElem hj) hy (h2 j _ (List.getElem?_eq_getElem hj))
  | tup cs ds hl h ih =>
    intro v hr
    obtain ⟨vs, rfl, h1, h2⟩ := hr.tup_inv
    refine .tup vs ds (by omega) fun j y hy => ?_
    have hj : j < cs.length := by rw [hl]; exact (List.getElem?_eq_some_iff.1 hy).1
    exact ih j _ y (List.getElem?_eq_getElem hj) hy (h2 j _ (List.getElem?_eq_getElem hj))
  | fn f cs ds hl h ih =>
    intro v hr
    obtain ⟨vs, rfl, h1, h2⟩ := hr.fn_inv
    refine .fn f ds vs (by omega) fun j y hy => ?_
    have hj : j < cs.length := by rw [hl]; exact (List.getElem?_eq_some_iff.1 hy).1
    exact ih j _ y (List.getElem?_eq_getElem hj) hy (h2 j _ (List.getElem?_eq_getElem hj))
  | nl => intro v hr; rw [hr.nl_inv]; exact .nl
  | nlsl t => intro v hr; rw [hr.nl_inv]; exact .sl0 _ _ _
  | sl0 t u =>
    intro v hr
    obtain ⟨a, c, rfl, _⟩ := hr.sl_inv
    exact .sl0 _ _ _
  | rf0 t s u =>
    intro v hr
    obtain ⟨p, a, c, _, rfl, _⟩ := hr.rf_inv
    exact .sl0 _ _ _
  | sl t u xs ys hu ht hl hz h ih =>
    intro v hr
    obtain ⟨a, c, rfl, hc, hx⟩ := hr.sl_inv
    by_cases h0 : xs = []
    · subst h0
      have : ys = [] := List.length_eq_zero_iff.1 (by simpa using hl.symm)
      subst this
      exact .sl0 _ _ _
    · obtain ⟨g, o, sz, cv, rfl, hg, hgl, htag, hss, hm, hrr⟩ := hx h0
      have hgk : ok' g ∧ ∀ k, u = some k → ∃ p, β' k = some p ∧ p.g = g ∧ p.dead = false := by
        cases u with
        | none => exact ⟨hok (hu rfl) g hg, fun k hk => by cases hk⟩
        | some k =>
          obtain ⟨j, rfl, hTk⟩ := ht k rfl
          obtain ⟨p, hp, hpg, hpd⟩ := htag j rfl
          obtain ⟨q1, p', q2, q3, q4⟩ := hT k j p hTk hp hpd
          refine ⟨hpg ▸ q1, fun k' hk => ?_⟩
          cases hk
          exact ⟨p', q2, by rw [q3, hpg], q4⟩
      rw [hl]
      have hget : ∀ {i : Nat} {y : AV}, ys[i]? = some y → ∃ x, xs[i]? = some x := by
        intro i y hy
        have hi : i < xs.length := by rw [hl]; exact (List.getElem?_eq_some_iff.1 hy).1
        exact ⟨_, List.getElem?_eq_getElem hi⟩
      refine .sl g o c sz u ys cv (by omega) hgk.1 hgl hgk.2 ?_ ?_ ?_
      · intro i y hy
        obtain ⟨x, hx⟩ := hget hy
        rw [← hz i x y hx hy]; exact hss i x hx
      · intro i y j hy hj
        obtain ⟨x, hx⟩ := hget hy
        exact hm i x j hx hj
      · intro i y j q hy hq
        obtain ⟨x, hx⟩ := hget hy
        have hj : j < x.cells.length := by rw [hz i x y hx hy]; exact (List.getElem?_eq_some_iff.1 hq).1
        exact ih i x y j _ q hx hy (List.getElem?_eq_getElem hj) hq (hrr i x j _ hx (List.getElem?_eq_getElem hj))
  | rf t s m z es u ys hSt hH hn hu ht hl hz h ih =>
    intro v hr
    obtain ⟨p, a, c, hp, rfl, ha, hc, _⟩ := hr.rf_inv
    obtain ⟨p', hp', hd, hpz, hlen, hx⟩ := hs.dom _ _ hH
    rw [hp] at hp'; cases hp'
    dsimp only at hpz hlen hx
    by_cases h0 : m = 0
    · subst h0
      have : ys = [] := List.length_eq_zero_iff.1 hl
      subst this
      exact .sl0 _ _ _
    · have had := ha (.inl h0)
      subst had
      have hgp : p.g < w.heap.size := hs.plt hp
      have hgk : ok' p.g ∧ ∀ k, u = some k → ∃ q, β' k = some q ∧ q.g = p.g ∧ q.dead = false := by
        refine ⟨hS t _ p hSt hH hp, fun k hk => ?_⟩
        exact (hT k t p (ht k hk) hp hd).2
      have hget : ∀ {i : Nat} {y : AV}, ys[i]? = some y → ∃ x, ((es.drop s).take m)[i]? = some x ∧ es[s + i]? = some x := by
        intro i y hy
        have hi : i < m := by rw [← hl]; exact (List.getElem?_eq_some_iff.1 hy).1
        have hi2 : s + i < es.length := by omega
        refine ⟨es[s + i], ?_, List.getElem?_eq_getElem hi2⟩
        rw [List.getElem?_take, if_pos hi, List.getElem?_drop, List.getElem?_eq_getElem hi2]
      subst hl
      refine .sl p.g (p.b + s * p.sz) c p.sz u ys (fun i j => (w.cell? ⟨p.g, p.b + s * p.sz + i * p.sz + j, none⟩).getD undef) hc hgk.1 hgp hgk.2 ?_ ?_ ?_
      · intro i y hy
        obtain ⟨x, hx1, hx2⟩ := hget hy
        rw [← hz i x y hx1 hy]; exact (hx _ x hx2).1
      · intro i y j hy hj
        obtain ⟨x, hx1, hx2⟩ := hget hy
        have hjl : j < x.cells.length := by rw [(hx _ x hx2).1]; exact hj
        obtain ⟨u', hu', _⟩ := (hx _ x hx2).2 j _ (List.getElem?_eq_getElem hjl)
        have e : p.b + s * p.sz + i * p.sz + j = p.b + ((s + i) * p.sz + j) := by rw [Nat.add_mul]; simp only [Nat.add_assoc]
        rw [e, hu']; rfl
      · intro i y j q hy hq
        obtain ⟨x, hx1, hx2⟩ := hget hy
        have hjl : j < x.cells.length := by rw [hz i x y hx1 hy]; exact (List.getElem?_eq_some_iff.1 hq).1
        obtain ⟨u', hu', hru⟩ := (hx _ x hx2).2 j _ (List.getElem?_eq_getElem hjl)
        have e : p.b + s * p.sz + i * p.sz + j = p.b + ((s + i) * p.sz + j) := by rw [Nat.add_mul]; simp only [Nat.add_assoc]
        rw [e, hu']
        exact ih i x y j _ q hx1 hy (List.getElem?_eq_getElem hjl) hq hru
  | ad t i o z es e e' hSt hH he hU hz h ih =>
    intro v hr
    obtain ⟨p, hp, rfl⟩ := hr.ad_inv
    obtain ⟨p', hp', hd, hpz, hlen, hx⟩ := hs.dom _ _ hH
    rw [hp] at hp'; cases hp'
    dsimp only at hpz hlen hx
    rw [← Nat.add_assoc]
    refine .pr e' o p.g (p.b + i * p.sz) (fun j => (w.cell? ⟨p.g, p.b + i * p.sz + j, none⟩).getD undef) (hS t _ p hSt hH hp) (hs.plt hp) ?_ ?_
    · intro j hj
      have hjl : j < e.cells.length := by omega
      obtain ⟨u', hu', _⟩ := (hx _ e he).2 j _ (List.getElem?_eq_getElem hjl)
      rw [← Nat.add_assoc] at hu'
      rw [hu']; rfl
    · intro j q hq
      have hjl : j < e.cells.length := by rw [hz]; exact (List.getElem?_eq_some_iff.1 hq).1
      obtain ⟨u', hu', hru⟩ := (hx _ e he).2 j _ (List.getElem?_eq_getElem hjl)
      rw [← Nat.add_assoc] at hu'
      rw [hu']
      exact ih j _ q (List.getElem?_eq_getElem hjl) hq hru
  | pr e e' o hU hz h ih =>
    intro v hr
    obtain ⟨g, b, cv, rfl, hg, hgl, hm, hrr⟩ := hr.pr_inv
    refine .pr e' o g b cv (hok hU g hg) hgl (fun j hj => hm j (by omega)) fun j q hq => ?_
    have hjl : j < e.cells.length := by rw [hz]; exact (List.getElem?_eq_some_iff.1 hq).1
    exact ih j _ q (List.getElem?_eq_getElem hjl) hq (hrr j _ (List.getElem?_eq_getElem hjl))

end Go.Am
/-! Calls that get data and give data: they leave every own block alone. -/
namespace Go.Am
set_option linter.unusedVariables false

/-- Arguments seen as data. -/
def Vws (H : Heap) (S : Nat → Prop) (args args' : List AV) : Prop :=
  args.length = args'.length ∧ ∀ (j : Nat) (x y : AV), args[j]? = some x → args'[j]? = some y → Vw H S (fun _ _ => False) True x y

def noHeap : Heap := fun _ => none

/-- A contract from data to data. `R n` is the result, its own slices tagged n, n + 1, .., n + c - 1; U: other slices may be no memory of the call's own. -/
def PC (P : Program) (f : Nat) (args : List AV) (R : Nat → AV) (c : Nat) (U : Prop) : Prop :=
  MC P f args noHeap 0 fun v H' n' => ∃ ρ : Nat → Nat, (∀ k k', k < c → k' < c → ρ k = ρ k' → k = k') ∧ ∀ n, Vw H' (fun _ => True) (fun k t => ∃ j, j < c ∧ k = n + j ∧ ρ j = t) U v (R n)

open Classical in
/-- The tokens behind a call. -/
noncomputable def Bt.after (β β' : Bt) (n c : Nat) (ρ : Nat → Nat) : Bt := fun t =>
  if t < n then β t else if t < n + c then match β' (ρ (t - n)) with
    | some p => if p.dead = false then some p else none
    | none => none
  else none

theorem Bt.after_lt {β β' : Bt} {n c : Nat} {ρ : Nat → Nat} {t : Nat} (h : t < n) : Bt.after β β' n c ρ t = β t := by simp [Bt.after, h]
theorem Bt.after_new {β β' : Bt} {n c : Nat} {ρ : Nat → Nat} {t : Nat} {p : Pl} (h : n ≤ t) (hp : Bt.after β β' n c ρ t = some p) : t < n + c ∧ β' (ρ (t - n)) = some p ∧ p.dead = false := by
  unfold Bt.after at hp
  rw [if_neg (by omega)] at hp
  split at hp
  · rename_i hlt
    split at hp
    · rename_i q hq
      split at hp
      · rename_i hd; cases hp; exact ⟨hlt, hq, hd⟩
      · cases hp
    · cases hp
  · cases hp
theorem Bt.after_of {β β' : Bt} {n c : Nat} {ρ : Nat → Nat} {j : Nat} {p : Pl} (hj : j < c) (hp : β' (ρ j) = some p) (hd : p.dead = false) : Bt.after β β' n c ρ (n + j) = some p := by
  unfold Bt.after
  rw [if_neg (by omega), if_pos (by omega), Nat.add_sub_cancel_left, hp]
  simp [hd]

/-- A call on data leaves the own heap as it is. -/
theorem pcall {P : Program} {f : Nat} {args args' : List AV} {R : Nat → AV} {c : Nat} {U : Prop} {H : Heap} {n : Nat} {S : Nat → Prop} (hm : PC P f args' R c U) (hv : Vws H S args args') (hU : U → ∀ t, ¬ S t) :
    MC P f args H n fun v H2 n2 => v = R n ∧ H2 = H ∧ n2 = n + c := by
  refine ⟨hm.1, fun X β w cargs hs hr => ?_⟩
  -- the own blocks that are not looked into are walled off
  let Xc : Nat → Prop := fun g => X g ∨ ∃ t b p, H t = some b ∧ β t = some p ∧ p.g = g ∧ ¬ S t
  have hxlt : ∀ g, Xc g → g < w.heap.size := by
    rintro g (h | ⟨t, b, p, _, hp, rfl, _⟩)
    · exact hs.xlt g h
    · exact hs.plt hp
  have hs0 : HSim Xc (fun _ => none) w noHeap 0 := ⟨(fun t p h => by cases h), (fun t t' p p' h => by cases h), (fun t p h => by cases h), (fun t es h => by cases h), hxlt⟩
  have hno : ∀ g, okB X β H g → okB Xc (fun _ => none) noHeap g := by
    intro g hg
    refine ⟨?_, fun t es p h => by cases h⟩
    rintro (h | ⟨t, b, p, hH, hp, hpg, _⟩)
    · exact hg.1 h
    · exact hg.2 t b p hH hp hpg
  have hSt : ∀ t b p, S t → H t = some b → β t = some p → okB Xc (fun _ => none) noHeap p.g := by
    intro t b p hSt hH hp
    refine ⟨?_, fun t es p h => by cases h⟩
    rintro (h | ⟨t', b', p', hH', hp', hpg, hS'⟩)
    · exact (hs.blk t p hp).1 h
    · obtain ⟨q, hq, hd, _⟩ := hs.dom t b hH
      obtain ⟨q', hq', hd', _⟩ := hs.dom t' b' hH'
      rw [hp] at hq; cases hq
      rw [hp'] at hq'; cases hq'
      exact hS' (hs.inj t t' p p' hp hp' hpg.symm hd hd' ▸ hSt)
  have hr0 : LRep (fun _ => none) (okB Xc (fun _ => none) noHeap) w cargs args' := by
    refine ⟨by rw [hr.1]; exact hv.1, fun j y hy => ?_⟩
    have hj : j < args.length := by rw [hv.1]; exact (List.getElem?_eq_some_iff.1 hy).1
    exact (hv.2 j _ y (List.getElem?_eq_getElem hj) hy).rep hs (fun _ => hno) hSt (fun k t p h => h.elim) (hr.2 j _ (List.getElem?_eq_getElem hj))
  refine Calls.mono (hm.2 Xc (fun _ => none) w cargs hs0 hr0) ?_
  rintro e w' ⟨cv, v, β', H', n', he, ⟨ρ, hρ, hvw⟩, hs', hrep, hcx⟩
  have hnoown : ∀ g, ¬ Entry.own ⟨Xc, fun _ => none, noHeap, 0, w⟩ g := by rintro g ⟨t, es, p, h, _⟩; cases h
  have hold : ∀ g, g < w.heap.size → w'.heap[g]? = w.heap[g]? := fun g hg => hcx.old g hg (hnoown g)
  have hnew : ∀ t p, β' t = some p → w.heap.size ≤ p.g := by
    intro t p hp
    rcases Nat.lt_or_ge p.g w.heap.size with h | h
    · exact absurd (hcx.new t p (Nat.zero_le _) hp h) (hnoown _)
    · exact h
  have hsz : w.heap.size ≤ w'.heap.size := hcx.size
  have hcell : ∀ g o, g < w.heap.size → w'.cell? ⟨g, o, none⟩ = w.cell? ⟨g, o, none⟩ := fun g o hg => by simp [World.cell?, hold g hg]
  let β2 := Bt.after β β' n c ρ
  have hdomlt : ∀ t b, H t = some b → t < n := fun t b hb => by obtain ⟨p, hp, _⟩ := hs.dom t b hb; exact hs.lt t p hp
  have hok2 : ∀ g, okB X β H g → okB X β2 H g := by
    intro g hg
    refine ⟨hg.1, fun t b p hb hp => ?_⟩
    rw [show β2 t = β t from Bt.after_lt (hdomlt t b hb)] at hp
    exact hg.2 t b p hb hp
  have hstp : Stp β (okB X β H) w β2 (okB X β2 H) w' := by
    refine ⟨fun t p hp => ⟨p, by rw [show β2 t = β t from Bt.after_lt (hs.lt t p hp)]; exact hp, rfl, rfl, rfl, rfl, rfl⟩, fun t p hp _ _ => by rw [show β2 t = β t from Bt.after_lt (hs.lt t p hp)]; exact hp, hsz, fun g _ hg => hok2 g hg, fun g o hg _ => hcell g o hg⟩
  have hs2 : HSim X β2 w' H (n + c) := by
    refine ⟨?_, ?_, ?_, ?_, fun g hg => by have := hs.xlt g hg; omega⟩
    · intro t p hp
      by_cases ht : t < n
      · omega
      · exact (Bt.after_new (by omega) hp).1
    · intro t t' p p' hp hp' hgg hd hd'
      by_cases ht : t < n <;> by_cases ht' : t' < n
      · rw [show β2 t = β t from Bt.after_lt ht] at hp
        rw [show β2 t' = β t' from Bt.after_lt ht'] at hp'
        exact hs.inj t t' p p' hp hp' hgg hd hd'
      · rw [show β2 t = β t from Bt.after_lt ht] at hp
        obtain ⟨_, q2, _⟩ := Bt.after_new (by omega) hp'
        have h1 := hs.plt hp
        have h2 := hnew _ _ q2
        omega
      · rw [show β2 t' = β t' from Bt.after_lt ht'] at hp'
        obtain ⟨_, q2, _⟩ := Bt.after_new (by omega) hp
        have h1 := hs.plt hp'
        have h2 := hnew _ _ q2
        omega
      · obtain ⟨a1, a2, a3⟩ := Bt.after_new (by omega) hp
        obtain ⟨b1, b2, b3⟩ := Bt.after_new (by omega) hp'
        have := hs'.inj _ _ p p' a2 b2 hgg a3 b3
        have := hρ (t - n) (t' - n) (by omega) (by omega) this
        omega
    · intro t p hp
      by_cases ht : t < n
      · rw [show β2 t = β t from Bt.after_lt ht] at hp
        obtain ⟨h1, cur, e, h2, h3⟩ := hs.blk t p hp
        exact ⟨h1, cur, e, by rw [hold _ (hs.plt hp)]; exact h2, h3⟩
      · obtain ⟨_, q2, _⟩ := Bt.after_new (by omega) hp
        obtain ⟨h1, h2⟩ := hs'.blk _ p q2
        exact ⟨fun hx => h1 (.inl hx), h2⟩
    · intro t b hb
      obtain ⟨p, hp, hd, hz, hl, hx⟩ := hs.dom t b hb
      refine ⟨p, by rw [show β2 t = β t from Bt.after_lt (hdomlt t b hb)]; exact hp, hd, hz, hl, fun i x hi => ⟨(hx i x hi).1, fun j y hj => ?_⟩⟩
      obtain ⟨v, hv, hr⟩ := (hx i x hi).2 j y hj
      exact ⟨v, by rw [hcell _ _ (hs.plt hp)]; exact hv, hr.stp hstp⟩
  have hcx2 : Ctx ⟨X, β, H, n, w⟩ β2 w' H (n + c) := by
    refine ⟨hsz, hcx.os, hcx.tape, hcx.output, by simp, fun t p hp => hstp.tok t p hp, fun t p hp _ => ?_, fun g hg _ => hold g hg, fun t b _ hb => by simp only at hb ⊢; rw [hb]; rfl, ?_, ?_, hs.lt⟩
    · simp only at hp
      rw [show β2 t = β t from Bt.after_lt (hs.lt t p hp)]; exact hp
    · intro t p ht hp hlt
      simp only at ht hlt
      obtain ⟨_, q2, _⟩ := Bt.after_new ht hp
      have := hnew _ _ q2
      omega
    · intro t p ht hp
      simp only at ht ⊢
      rw [show β2 t = β t from Bt.after_lt ht] at hp
      rw [hp]; rfl
  refine ⟨cv, R n, β2, H, n + c, he, ⟨rfl, rfl, rfl⟩, hs2, ?_, hcx2⟩
  have hnewok : ∀ p, w.heap.size ≤ p → ¬ X p → okB X β2 H p := by
    intro g hg hx
    refine ⟨hx, fun t b q hb hq => ?_⟩
    rw [show β2 t = β t from Bt.after_lt (hdomlt t b hb)] at hq
    have := hs.plt hq
    omega
  refine (hvw n).rep (ok' := okB X β2 H) (β' := β2) hs' ?_ ?_ ?_ hrep
  · intro hu g hg
    rcases Nat.lt_or_ge g w.heap.size with hlt | hge
    · refine ⟨fun hx => hg.1 (.inl hx), fun t b q hb hq hqg => ?_⟩
      rw [show β2 t = β t from Bt.after_lt (hdomlt t b hb)] at hq
      exact hg.1 (.inr ⟨t, b, q, hb, hq, hqg, hU hu t⟩)
    · exact hnewok g hge (fun hx => hg.1 (.inl hx))
  · intro t b p _ _ hp
    exact hnewok p.g (hnew t p hp) (fun hx => (hs'.blk t p hp).1 (.inl hx))
  · rintro k t p ⟨j, hj, rfl, rfl⟩ hp hd
    exact ⟨hnewok p.g (hnew _ p hp) (fun hx => (hs'.blk _ p hp).1 (.inl hx)), p, Bt.after_of hj hp hd, rfl, hd⟩

end Go.Am
/-! One instruction of a region. -/
namespace Go.Am
set_option linter.unusedVariables false

/-- What an address or a slice leads to has been kept. -/
def tokKept (H H' : Heap) : AV → Prop
  | .ad t _ _ => ∀ b, H t = some b → H' t = some b
  | .rf t _ _ => ∀ b, H t = some b → H' t = some b
  | _ => True

/-- A call. -/
def awpC (P : Program) (raw : Bool) (f : Nat) (args : List AV) (d : Option Nat) (fl : List Nat) (σ : St) (K : St → Prop) : Prop :=
  match raw with
  | false => ∃ args' R c S U, PC P f args' R c U ∧ Vws σ.H S args args' ∧ (U → ∀ t, ¬ S t) ∧ K ⟨σ.fr.put d (R σ.n), σ.H, σ.n + c⟩
  | true => MC P f args σ.H σ.n fun v H' n' => (∀ s ∈ fl, tokKept σ.H H' (σ.fr s)) ∧ K ⟨σ.fr.put d v, H', n'⟩

theorem awpC_mc {P : Program} {raw : Bool} {f : Nat} {args : List AV} {d : Option Nat} {fl : List Nat} {σ : St} {K : St → Prop} (h : awpC P raw f args d fl σ K) :
    MC P f args σ.H σ.n fun v H' n' => K ⟨σ.fr.put d v, H', n'⟩ := by
  cases raw with
  | false =>
    obtain ⟨args', R, c, S, U, h1, h2, h3, h4⟩ := h
    exact (pcall h1 h2 h3).mono fun v H' n' ⟨e1, e2, e3⟩ => by subst e1 e2 e3; exact h4
  | true => exact MC.mono h fun v H' n' hq => hq.2

/-- One instruction. -/
def awpX (P : Program) (ins : AI) (tok : Nat) (σ : St) (K : St → Prop) : Prop :=
  match ins.op with
  | .call raw f args => awpC P raw f (args.map (·.ev σ.fr)) ins.d ins.fl σ K
  | .callv raw t args => match σ.fr t with
    | .fn g caps => awpC P raw g (args.map (·.ev σ.fr) ++ caps) ins.d ins.fl σ K
    | _ => False
  | op => match op.run σ.fr σ.H tok with
    | some (v, H') => (∀ s ∈ ins.fl, tokKept σ.H H' (σ.fr s)) ∧ K ⟨σ.fr.put ins.d v, H', σ.n⟩
    | none => False

def awpI (P : Program) (ins : AI) (tok : Nat) (σ : St) (K : St → Prop) : Prop :=
  match ins.g with
  | none => awpX P ins tok σ K
  | some (s, want) => match σ.fr s with
    | .b x => if x = want then awpX P ins tok σ K else K ⟨σ.fr.put ins.d (.tup []), σ.H, σ.n⟩
    | .tup [] => K ⟨σ.fr.put ins.d (.tup []), σ.H, σ.n⟩
    | _ => False

/-- The instructions of a region, one after the other; `tok` is the token of the first. -/
def awpOps (P : Program) : List AI → Nat → St → (St → Prop) → Prop
  | [], _, σ, K => K σ
  | i :: r, tok, σ, K => awpI P i tok σ fun σ' => awpOps P r (tok + 1) σ' K

section
variable {P : Program} {rw : Nat → Bool} {rv : Bool} {E : Entry} {β : Bt} {N : Nat} {a : Act} {w : World} {σ : St} {tok : Nat} {o : Oper} {ops : Array Oper}

/-- Tokens that are yet to be given. -/
def Free (β : Bt) (F : Nat → Prop) (n : Nat) : Prop := ∀ t, F t → β t = none ∧ t < n

theorem callArgs_rep (h : Sim E β N a w σ) {xs : Array Operand} {ys : List AO} (hc : copds xs.toList = some ys) : LRep β (okB E.X β σ.H) w (xs.map a.eval) (ys.map (·.ev σ.fr)) := by
  obtain ⟨hl, hy⟩ := opds_rep h hc
  refine ⟨by simpa using hl, fun j y hj => ?_⟩
  simp only [List.getElem?_map, Option.map_eq_some_iff] at hj
  obtain ⟨z, hz, rfl⟩ := hj
  obtain ⟨u, hu, hr⟩ := hy j z hz
  simp at hu
  simpa [hu] using hr

theorem LRep.append {β : Bt} {ok : Nat → Prop} {w : World} {us vs : Array Value} {cs ds : List AV} (h1 : LRep β ok w us cs) (h2 : LRep β ok w vs ds) : LRep β ok w (us ++ vs) (cs ++ ds) := by
  refine ⟨by simp [h1.1, h2.1], fun j y hj => ?_⟩
  by_cases hl : j < cs.length
  · rw [List.getElem?_append_left hl] at hj
    rw [Array.getElem?_append_left (by rw [h1.1]; exact hl)]
    exact h1.2 j y hj
  · rw [List.getElem?_append_right (by omega)] at hj
    rw [Array.getElem?_append_right (by rw [h1.1]; omega), h1.1]
    exact h2.2 _ y hj

theorem run_callFunc {f : Nat} {fn : Func} (hf : P.funcs[f]? = some fn) (hb : fn.body.isSome = true) (hn : (fn.name == "runtime.NumGoroutine") = false) (args : Array Value) (w : World) : (callFunc f args).run P w = .ok (.enter f args) w := by
  have hb' : ¬ fn.body.isNone = true := by cases h : fn.body <;> simp_all
  have hn' : ¬ (fn.name == "runtime.NumGoroutine") = true := by rw [hn]; simp
  simp only [callFunc, Sem.run_bind, run_program, Result.andThen_ok, hf]
  rw [if_neg hn', if_neg hb']
  rfl

/-- A call of a known function. -/
theorem call_sound (h : Sim E β N a w σ) {cargs : Array Value} {f : Nat} {args : List AV} (he : (execOp a.eval o).run P w = .ok (.enter f cargs) w) (hr : LRep β (okB E.X β σ.H) w cargs args) {d : Option Nat} (hd : ∀ k, d = some k → k < N)
    (hdst : o.dst = d) {K : St → Prop} (hm : MC P f args σ.H σ.n fun v H' n' => K ⟨σ.fr.put d v, H', n'⟩) {F : Nat → Prop} (hfree : Free β F σ.n) {next : Act → World → Prop} {Q : Exit → Act → World → Prop}
    (hK : ∀ β' a' w' σ', Sim E β' N a' w' σ' → Free β' F σ'.n → K σ' → next a' w') : o.wp P a w next Q := by
  unfold Oper.wp
  rw [he]
  simp only [Oper.upon]
  refine Calls.mono (hm.2 E.X β w cargs h.hs hr) ?_
  rintro e w' ⟨cv, v, β', H', n', rfl, hq, h1, h2, h3⟩
  simp only
  rw [hdst]
  refine hK β' _ w' _ (h.put h1 (Ctx.stp h.hs h3) (h.cx.trans h3) hd h2) ?_ hq
  intro t ht
  obtain ⟨f1, f2⟩ := hfree t ht
  refine ⟨?_, Nat.lt_of_lt_of_le f2 h3.le⟩
  cases hb : β' t with
  | none => rfl
  | some p =>
    have := h3.back t p f2 hb
    simp only at this
    rw [f1] at this; cases this

theorem cop1_call {op : Op} {raw : Bool} {f : Nat} {args : List AO} (hc : cop1 P rw rv op = some (.call raw f args)) : ∃ c, op = .call c ∧ c.callee = .value (.func f) ∧ copds c.args.toList = some args := by
  unfold cop1 at hc
  repeat' split at hc
  all_goals first
    | (cases hc; done)
    | (obtain ⟨_, _, hh⟩ := map_some hc; cases hh; done)
    | skip
  rename_i c _ f' hcal
  obtain ⟨ys, hy, hh⟩ := map_some hc
  cases hh
  exact ⟨c, rfl, hcal, hy⟩

theorem cop1_callv {op : Op} {raw : Bool} {t : Nat} {args : List AO} (hc : cop1 P rw rv op = some (.callv raw t args)) : ∃ c, op = .call c ∧ c.callee = .value (.tmp t) ∧ copds c.args.toList = some args := by
  unfold cop1 at hc
  repeat' split at hc
  all_goals first
    | (cases hc; done)
    | (obtain ⟨_, _, hh⟩ := map_some hc; cases hh; done)
    | skip
  rename_i c _ t hcal
  obtain ⟨ys, hy, hh⟩ := map_some hc
  cases hh
  exact ⟨c, rfl, hcal, hy⟩

/-- One instruction is sound. -/
theorem awpX_sound (h : Sim E β N a w σ) {aop : AOp} (hc : cop1 P rw rv o.op = some aop) {d : Option Nat} (hdst : o.dst = d) (hd : ∀ k, d = some k → k < N) {F : Nat → Prop} (hfree : Free β F σ.n) (hF : F tok) (hE : E.n ≤ tok)
    {g : Option (Nat × Bool)} {fl : List Nat} {K : St → Prop} (hx : awpX P ⟨d, aop, g, fl⟩ tok σ K) {next : Act → World → Prop} {Q : Exit → Act → World → Prop}
    (hK : ∀ β' a' w' σ', Sim E β' N a' w' σ' → Free β' (fun t => F t ∧ t ≠ tok) σ'.n → K σ' → next a' w') : o.wp P a w next Q := by
  have hfree1 : Free β (fun t => F t ∧ t ≠ tok) σ.n := fun t h => hfree t h.1
  unfold awpX at hx
  split at hx
  · rename_i raw f args heq
    simp only at heq; subst heq
    obtain ⟨c, ho, hcal, hargs⟩ := cop1_call hc
    have hm := awpC_mc hx
    obtain ⟨fn, hf, hb, hn⟩ := hm.1
    refine call_sound h (cargs := c.args.map a.eval) ?_ (callArgs_rep h hargs) hd hdst hm hfree1 hK
    simp only [execOp, ho, Sem.run_bind, resolve, hcal, Act.eval, Deferred.ofValue, Sem.run_pure, Result.andThen_ok, invoke]
    rw [run_callFunc hf hb hn]
    simp
  · rename_i raw t args heq
    simp only at heq; subst heq
    obtain ⟨c, ho, hcal, hargs⟩ := cop1_callv hc
    split at hx
    · rename_i g' caps hv
      obtain ⟨vs, hvv, hl, hcr⟩ := (hv ▸ h.fs t : Rep _ _ _ _ (.fn g' caps)).fn_inv
      have hm := awpC_mc hx
      obtain ⟨fn, hf, hb, hn⟩ := hm.1
      refine call_sound h (cargs := c.args.map a.eval ++ vs) ?_ ((callArgs_rep h hargs).append ⟨hl, hcr⟩) hd hdst hm hfree1 hK
      have he : a.eval (.tmp t) = .func (.func g') #[] vs := hvv
      simp only [execOp, ho, Sem.run_bind, resolve, hcal, he, Deferred.ofValue, Sem.run_pure, Result.andThen_ok, invoke]
      rw [run_callFunc hf hb hn]
      simp
    · exact hx.elim
  · rename_i hn1 hn2
    split at hx
    · rename_i v H' hr
      obtain ⟨nx, u, w', β', q1, q2, q3, q4, q5, q6, q7⟩ := op_sound h (hfree tok hF).1 (hfree tok hF).2 hE hc hr
      unfold Oper.wp
      rw [q1]
      have hs := h.put q3 q4 q5 hd q6
      have hfr : Free β' (fun t => F t ∧ t ≠ tok) σ.n := fun t h => ⟨q7 t h.2 (hfree t h.1).1, (hfree t h.1).2⟩
      rcases q2 with rfl | ⟨rfl, rfl⟩
      · simp only [Oper.upon]
        rw [hdst]; exact hK _ _ _ _ hs hfr hx.2
      · simp only [Oper.upon]
        rw [hdst]; exact hK _ _ _ _ hs hfr hx.2
    · exact hx.elim

theorem undef_rep {β : Bt} {ok : Nat → Prop} {w : World} : Rep β ok w undef (.tup []) := .tup #[] [] rfl (fun j y hy => by simp at hy)

/-- One instruction with its guard. -/
theorem awpI_sound (h : Sim E β N a w σ) {i : Nat} (hi0 : ops[i]? = some o) {ins ins0 : AI} (hc : cop P rw rv N ops o = some ins0) (hins : ins.d = ins0.d ∧ ins.op = ins0.op ∧ ins.g = ins0.g) {F : Nat → Prop} (hfree : Free β F σ.n) (hF : F tok) (hE : E.n ≤ tok)
    {K : St → Prop} (hx : awpI P ins tok σ K) {next : Act → World → Prop} {Q : Exit → Act → World → Prop}
    (hK : ∀ β' a' w' σ', Sim E β' N a' w' σ' → Free β' (fun t => F t ∧ t ≠ tok) σ'.n → K σ' → next a' w') : wpOp P ops Q i next a w := by
  have hfree1 : Free β (fun t => F t ∧ t ≠ tok) σ.n := fun t h => hfree t h.1
  obtain ⟨d, op, g, fl⟩ := ins
  obtain ⟨e1, e2, e3⟩ := hins
  simp only at e1 e2 e3
  subst e1 e2 e3
  unfold cop at hc
  split at hc
  · cases hc
  · rename_i aop hop
    split at hc
    · rename_i hdN
      have hd : ∀ k, o.dst = some k → k < N := by
        intro k hk
        rw [hk] at hdN
        simpa [dstOk] using hdN
      unfold wpOp
      rw [hi0]
      simp only
      split at hc
      · rename_i hg
        cases hc
        rw [if_pos (by simp [Region.wanted, hg])]
        exact .inl (awpX_sound h hop rfl hd hfree hF hE hx hK)
      · rename_i j b hg
        split at hc
        · rename_i s hs
          cases hc
          simp only [awpI] at hx
          split at hx
          · rename_i q hq
            have hv := (hq ▸ h.fs s : Rep _ _ _ _ (.b q)).b_inv
            have hy : yielded ops a.tmps j = some q := by
              unfold yielded
              rw [hs]
              have : a.tmps[s]? = some (.bool q) := by
                cases ht : a.tmps[s]? with
                | none =>
                  have hsz : a.tmps.size ≤ s := by simpa using ht
                  simp [Array.getD, Nat.not_lt.2 hsz, undef] at hv
                | some u =>
                  have hlt' := (Array.getElem?_eq_some_iff.1 ht).1
                  simp [Array.getD, hlt'] at hv
                  rw [Array.getElem?_eq_getElem hlt'] at ht
                  rw [hv] at ht; exact ht.symm
              simp [this]
            by_cases hqb : q = b
            · rw [if_pos hqb] at hx
              rw [if_pos (by simp [Region.wanted, hg, hy, hqb])]
              exact .inl (awpX_sound h hop rfl hd hfree hF hE hx hK)
            · rw [if_neg hqb] at hx
              rw [if_neg (by simp [Region.wanted, hg, hy, hqb])]
              refine hK β _ w _ (h.put h.hs (Stp.refl _ _ _) h.cx hd undef_rep) hfree1 hx
          · rename_i hq
            have hv := (hq ▸ h.fs s : Rep _ _ _ _ (.tup [])).tup_inv
            have hy : yielded ops a.tmps j = none := by
              obtain ⟨vs, hv, hsz, _⟩ := hv
              have hz : vs = #[] := Array.eq_empty_of_size_eq_zero (by simpa using hsz)
              subst hz
              unfold yielded
              rw [hs]
              cases ht : a.tmps[s]? with
              | none => simp [ht]
              | some u =>
                have hlt' := (Array.getElem?_eq_some_iff.1 ht).1
                simp [Array.getD, hlt'] at hv
                rw [Array.getElem?_eq_getElem hlt', hv] at ht
                cases ht
                simp [Array.getElem?_eq_getElem hlt', hv]
            rw [if_neg (by simp [Region.wanted, hg, hy])]
            refine hK β _ w _ (h.put h.hs (Stp.refl _ _ _) h.cx hd undef_rep) hfree1 hx
          · exact hx.elim
        · cases hc
    · cases hc
end

end Go.Am
/-! Instructions of a region that draws its order: which may change places. -/
namespace Go.Am
set_option linter.unusedVariables false
set_option linter.unusedSimpArgs false

inductive Cls where
  | pure
  | load
  | alloc
  | wr
  | pc
  | raw
  deriving DecidableEq

def AOp.cls : AOp → Cls
  | .ld _ _ | .iad _ _ _ | .slc _ _ _ _ => .load
  | .new _ | .box _ | .bsl _ _ _ | .mks _ _ _ _ => .alloc
  | .st _ _ _ | .app _ _ _ _ => .wr
  | .call r _ _ | .callv r _ _ => if r then .raw else .pc
  | _ => .pure

def AO.slots : AO → List Nat
  | .t n => [n]
  | .c _ => []

def AOs.slots (l : List AO) : List Nat := l.flatMap AO.slots

def AOo.slots : Option AO → List Nat
  | some x => x.slots
  | none => []

def AOp.slots : AOp → List Nat
  | .mv x | .box x | .ld _ x | .nck x | .fad _ x | .fld _ _ x | .not x | .neg x | .cvt _ x | .ext _ x | .len x | .slen x => x.slots
  | .pick c a b => c.slots ++ a.slots ++ b.slots
  | .new _ => []
  | .bld _ ps => AOs.slots (ps.map (·.2.2))
  | .bsl _ _ ps => AOs.slots (ps.map (·.2))
  | .st _ a v => a.slots ++ v.slots
  | .iad _ x i | .aad _ _ x i | .sidx x i | .bin _ x i | .beq _ x i | .mks _ _ x i | .app _ _ x i => x.slots ++ i.slots
  | .mkf _ l => AOs.slots l
  | .slc _ x lo hi => x.slots ++ AOo.slots lo ++ AOo.slots hi
  | .call _ _ l => AOs.slots l
  | .callv _ t l => t :: AOs.slots l

/-- The address that a load reads by. -/
def AOp.addr : AOp → List Nat
  | .ld _ x | .iad _ x _ | .slc _ x _ _ => x.slots
  | _ => []

theorem ev_congr {fr fr' : Fr} {x : AO} (h : ∀ s ∈ x.slots, fr s = fr' s) : x.ev fr = x.ev fr' := by
  cases x with
  | t n => exact h n (by simp [AO.slots])
  | c v => rfl

theorem evs_congr {fr fr' : Fr} {l : List AO} (h : ∀ s ∈ AOs.slots l, fr s = fr' s) : l.map (·.ev fr) = l.map (·.ev fr') := by
  refine List.map_congr_left fun x hx => ev_congr fun s hs => h s ?_
  exact List.mem_flatMap.2 ⟨x, hx, hs⟩

theorem fillS_congr {fr fr' : Fr} : ∀ (ps : List (Nat × Nat × AO)) (cs : List AV) (h : ∀ s ∈ AOs.slots (ps.map (·.2.2)), fr s = fr' s), fillS fr cs ps = fillS fr' cs ps
  | [], _, _ => rfl
  | (o, s, x) :: r, cs, h => by
    have e : x.ev fr = x.ev fr' := ev_congr fun k hk => h k (by simp [AOs.slots, hk])
    simp only [fillS, e]
    split
    · exact fillS_congr r _ fun k hk => h k (by simp only [AOs.slots, List.map_cons, List.flatMap_cons, List.mem_append]; exact .inr hk)
    · rfl

theorem fillL_congr {fr fr' : Fr} {sz : Nat} : ∀ (ps : List (Nat × AO)) (cs : List AV) (h : ∀ s ∈ AOs.slots (ps.map (·.2)), fr s = fr' s), fillL fr sz cs ps = fillL fr' sz cs ps
  | [], _, _ => rfl
  | (o, x) :: r, cs, h => by
    have e : x.ev fr = x.ev fr' := ev_congr fun k hk => h k (by simp [AOs.slots, hk])
    simp only [fillL, e]
    split
    · exact fillL_congr r _ fun k hk => h k (by simp only [AOs.slots, List.map_cons, List.flatMap_cons, List.mem_append]; exact .inr hk)
    · rfl

theorem evo_congr {fr fr' : Fr} {x : Option AO} (h : ∀ s ∈ AOo.slots x, fr s = fr' s) : x.map (·.ev fr) = x.map (·.ev fr') := by
  cases x with
  | none => rfl
  | some x => simp only [Option.map_some]; rw [ev_congr h]

/-- An operation looks at its operands alone. -/
theorem run_congr {fr fr' : Fr} {H : Heap} {tok : Nat} {op : AOp} (h : ∀ s ∈ op.slots, fr s = fr' s) : op.run fr H tok = op.run fr' H tok := by
  cases op <;> simp only [AOp.slots, List.mem_append] at h <;> simp only [AOp.run]
  case mv x => rw [ev_congr h]
  case pick c a b => rw [ev_congr (x := c) fun s hs => h s (.inl (.inl hs)), ev_congr (x := a) fun s hs => h s (.inl (.inr hs)), ev_congr (x := b) fun s hs => h s (.inr hs)]
  case box x => rw [ev_congr h]
  case bld z ps => rw [fillS_congr ps z h]
  case bsl z n ps => rw [fillL_congr ps _ h]
  case ld s a => rw [ev_congr h]
  case st s a v => rw [ev_congr (x := a) fun s hs => h s (.inl hs), ev_congr (x := v) fun s hs => h s (.inr hs)]
  case nck x => rw [ev_congr h]
  case fad o x => rw [ev_congr h]
  case fld s o x => rw [ev_congr h]
  case iad s a v => rw [ev_congr (x := a) fun s hs => h s (.inl hs), ev_congr (x := v) fun s hs => h s (.inr hs)]
  case aad n s a v => rw [ev_congr (x := a) fun s hs => h s (.inl hs), ev_congr (x := v) fun s hs => h s (.inr hs)]
  case sidx a v => rw [ev_congr (x := a) fun s hs => h s (.inl hs), ev_congr (x := v) fun s hs => h s (.inr hs)]
  case bin op a v => rw [ev_congr (x := a) fun s hs => h s (.inl hs), ev_congr (x := v) fun s hs => h s (.inr hs)]
  case beq op a v => rw [ev_congr (x := a) fun s hs => h s (.inl hs), ev_congr (x := v) fun s hs => h s (.inr hs)]
  case not x => rw [ev_congr h]
  case neg x => rw [ev_congr h]
  case cvt k x => rw [ev_congr h]
  case ext i x => rw [ev_congr h]
  case mkf f l => rw [evs_congr h]
  case mks z b a v => rw [ev_congr (x := a) fun s hs => h s (.inl hs), ev_congr (x := v) fun s hs => h s (.inr hs)]
  case slc s x lo hi => rw [ev_congr (x := x) fun s hs => h s (.inl (.inl hs)), evo_congr (x := lo) fun s hs => h s (.inl (.inr hs)), evo_congr (x := hi) fun s hs => h s (.inr hs)]
  case len x => rw [ev_congr h]
  case slen x => rw [ev_congr h]
  case app s b a v => rw [ev_congr (x := a) fun s hs => h s (.inl hs), ev_congr (x := v) fun s hs => h s (.inr hs)]

/-- What leaves the heap alone and does not look at it. -/
theorem run_pure {fr : Fr} {H H1 : Heap} {tok : Nat} {op : AOp} {v : AV} (hc : op.cls = .pure) (h : op.run fr H tok = some (v, H1)) : H1 = H ∧ ∀ H' tok', op.run fr H' tok' = some (v, H') := by
  cases op <;> simp only [AOp.cls] at hc <;> first | (cases hc; done) | (split at hc <;> cases hc; done) | skip
  all_goals simp only [AOp.run] at h ⊢
  case mv x => cases h; exact ⟨rfl, fun _ _ => rfl⟩
  case mkf f l => cases h; exact ⟨rfl, fun _ _ => rfl⟩
  case bld z ps => obtain ⟨cs, h1, h2⟩ := map_some h; cases h2; exact ⟨rfl, fun _ _ => by rw [h1]; rfl⟩
  case bin op x y => obtain ⟨cs, h1, h2⟩ := map_some h; cases h2; exact ⟨rfl, fun _ _ => by rw [h1]; rfl⟩
  all_goals
    (repeat' split at h)
    all_goals first
      | (cases h; done)
      | (cases h; refine ⟨rfl, fun _ _ => ?_⟩; simp_all; done)
      | (obtain ⟨cs, h1, h2⟩ := map_some h; cases h2; refine ⟨rfl, fun _ _ => ?_⟩; simp_all; done)


/-- The operand that a load reads by. -/
def AOp.adr : AOp → Option AO
  | .ld _ x | .iad _ x _ | .slc _ x _ _ => some x
  | _ => none

theorem kept_look {H H' : Heap} {a : AV} {e : AV × Nat} (hk : tokKept H H' a) (h : look H a = some e) : look H' a = some e := by
  cases a <;> simp only [look] at h ⊢ <;> try exact h
  rename_i t i o
  split at h
  · rename_i z es hH
    rw [hk _ hH]; exact h
  · cases h

theorem run_load {fr : Fr} {H H1 : Heap} {tok : Nat} {op : AOp} {v : AV} (hc : op.cls = .load) (h : op.run fr H tok = some (v, H1)) : H1 = H ∧ ∀ H' tok', (∀ x, op.adr = some x → tokKept H H' (x.ev fr)) → op.run fr H' tok' = some (v, H') := by
  cases op <;> simp only [AOp.cls] at hc <;> first | (cases hc; done) | (split at hc <;> cases hc; done) | skip
  all_goals simp only [AOp.run] at h ⊢
  case ld s a =>
    split at h
    · rename_i e o hl
      obtain ⟨u, h1, h2⟩ := map_some h
      cases h2
      refine ⟨rfl, fun H' tok' hk => ?_⟩
      rw [kept_look (hk a rfl) hl]
      simp [h1]
    · cases h
  case iad s x i =>
    split at h
    · rename_i k n hi
      split at h
      · rename_i t xs hx
        split at h
        · rename_i hn
          split at h
          · rename_i e he
            split at h
            · rename_i hz
              cases h
              exact ⟨rfl, fun H' tok' hk => by simp [hi, hx, hn, he, hz]⟩
            · cases h
          · cases h
        · cases h
      · rename_i t s' m hx
        split at h
        · rename_i z es hH
          split at h
          · rename_i hn
            split at h
            · rename_i e he
              split at h
              · rename_i hz
                cases h
                refine ⟨rfl, fun H' tok' hk => ?_⟩
                have := hk x rfl
                rw [hx] at this
                simp [hi, hx, this _ hH, hn, he, hz]
              · cases h
            · cases h
          · cases h
        · cases h
      · cases h
    · cases h
  case slc sz x lo hi =>
    split at h
    · rename_i hx
      split at h
      · rename_i hh h1
        split at h
        · rename_i ll h2
          cases h
          exact ⟨rfl, fun H' tok' hk => by simp [hx, h1, h2]⟩
        · cases h
      · cases h
    · rename_i t xs hx
      split at h
      · rename_i hh h1
        split at h
        · rename_i ll h2
          split at h
          · rename_i h3
            cases h
            exact ⟨rfl, fun H' tok' hk => by rw [if_pos h3]⟩
          · cases h
        · cases h
      · cases h
    · rename_i t s n hx
      split at h
      · rename_i z es hH
        split at h
        · rename_i hz
          split at h
          · rename_i hh h1
            split at h
            · rename_i ll h2
              cases h
              refine ⟨rfl, fun H' tok' hk => ?_⟩
              have := hk x rfl
              rw [hx] at this
              simp only [hx, this _ hH, h1, h2]
              rw [if_pos hz]
            · cases h
          · cases h
        · cases h
      · cases h
    · cases h

theorem run_alloc {fr : Fr} {H H1 : Heap} {tok : Nat} {op : AOp} {v : AV} (hc : op.cls = .alloc) (h : op.run fr H tok = some (v, H1)) : ∃ b, H1 = H.upd tok b ∧ ∀ H', op.run fr H' tok = some (v, H'.upd tok b) := by
  cases op <;> simp only [AOp.cls] at hc <;> first | (cases hc; done) | (split at hc <;> cases hc; done) | skip
  all_goals simp only [AOp.run] at h ⊢
  case new z => cases h; exact ⟨_, rfl, fun _ => rfl⟩
  case box x =>
    split at h
    · cases h
    · rename_i hx
      cases h
      refine ⟨_, rfl, fun H' => ?_⟩
      rfl
  case bsl z n ps => obtain ⟨cs, h1, h2⟩ := map_some h; cases h2; exact ⟨_, rfl, fun _ => by rw [h1]; rfl⟩
  case mks z b l c =>
    split at h
    · rename_i k l' k' c' e1 e2
      split at h
      · rename_i hh
        cases h
        exact ⟨_, rfl, fun H' => by rw [if_pos hh]⟩
      · cases h
    · cases h

theorem upd_comm {H : Heap} {t u : Nat} {b c : Blk} (h : t ≠ u) : (H.upd t b).upd u c = (H.upd u c).upd t b := by
  funext k
  simp only [Heap.upd]
  by_cases h1 : k = t <;> by_cases h2 : k = u <;> simp [h1, h2]
  · subst h1; subst h2; exact absurd rfl h
  · subst h1; simp [h]
  · subst h2; intro h3; exact absurd h3.symm h

theorem upd_ext {H : Heap} {t : Nat} {c : Blk} (h : H t = none) : ∀ u b, H u = some b → (H.upd t c) u = some b := by
  intro u b hu
  simp only [Heap.upd]
  by_cases e : u = t
  · subst e; rw [h] at hu; cases hu
  · rw [if_neg e]; exact hu

theorem kept_upd {H : Heap} {t : Nat} {c : Blk} (h : H t = none) (a : AV) : tokKept H (H.upd t c) a := by
  cases a <;> simp only [tokKept] <;> exact upd_ext h _

theorem kept_refl (H : Heap) (a : AV) : tokKept H H a := by
  cases a <;> simp [tokKept]

theorem elems_ext {H H' : Heap} (hh : ∀ u b, H u = some b → H' u = some b) {a : AV} {xs : List AV} (h : elems H a = some xs) : elems H' a = some xs := by
  cases a <;> simp only [elems] at h ⊢ <;> try exact h
  rename_i t s n
  split at h
  · rename_i z es hH
    rw [hh _ _ hH]; exact h
  · cases h

/-- A writer does the same where a new block has come before it. -/
theorem run_wr {fr : Fr} {H H1 : Heap} {tok ti : Nat} {op : AOp} {v : AV} {c : Blk} (hc : op.cls = .wr) (hti : H ti = none) (hne : tok ≠ ti) (h : op.run fr H tok = some (v, H1)) : op.run fr (H.upd ti c) tok = some (v, H1.upd ti c) := by
  cases op <;> simp only [AOp.cls] at hc <;> first | (cases hc; done) | (split at hc <;> cases hc; done) | skip
  all_goals simp only [AOp.run] at h ⊢
  case st s a x =>
    split at h
    · rename_i t i o ha
      split at h
      · rename_i z es hH
        split at h
        · rename_i e he
          split at h
          · rename_i hh
            cases h
            simp only [ha, upd_ext hti _ _ hH, he]
            rw [if_pos hh]
            have : t ≠ ti := by intro e; subst e; rw [hti] at hH; cases hH
            rw [upd_comm this]
          · cases h
        · cases h
      · cases h
    · cases h
  case app sz b x y =>
    split at h
    · cases h
    · rename_i ys hys
      rw [elems_ext (upd_ext hti) hys]
      simp only
      split at h
      · rename_i h1
        rw [if_pos h1]
        split at h
        · rename_i hx
          split at h
          · rename_i h2; cases h; rw [if_pos h2]
          · rename_i h2
            rw [if_neg h2]
            split at h
            · rename_i h3; cases h; rw [if_pos h3, upd_comm hne]
            · cases h
        · rename_i t n hx
          split at h
          · rename_i z es hH
            rw [upd_ext hti _ _ hH]
            simp only
            have htt : t ≠ ti := by intro e; subst e; rw [hti] at hH; cases hH
            split at h
            · rename_i h2
              rw [if_pos h2]
              split at h
              · rename_i h3; cases h; rw [if_pos h3]
              · rename_i h3
                cases h
                rw [if_neg h3]
                refine congrArg some (Prod.ext rfl ?_)
                funext k
                simp only [Heap.upd, Heap.off]
                by_cases k1 : k = tok <;> by_cases k2 : k = ti <;> by_cases k3 : k = t <;> simp_all
            · cases h
          · cases h
        · cases h
      · cases h

theorem Vw.ext {H H' : Heap} (hh : ∀ u b, H u = some b → H' u = some b) {S : Nat → Prop} {T : Nat → Nat → Prop} {U : Prop} {x y : AV} (h : Vw H S T U x y) : Vw H' S T U x y := by
  induction h with
  | top v => exact .top v
  | b x => exact .b x
  | i k m => exact .i k m
  | s x => exact .s x
  | agg cs ds hl h ih => exact .agg cs ds hl ih
  | tup cs ds hl h ih => exact .tup cs ds hl ih
  | fn f cs ds hl h ih => exact .fn f cs ds hl ih
  | nl => exact .nl
  | nlsl t => exact .nlsl t
  | sl0 t u => exact .sl0 t u
  | rf0 t s u => exact .rf0 t s u
  | sl t u xs ys hu ht hl hz h ih => exact .sl t u xs ys hu ht hl hz ih
  | rf t s n z es u ys hS hH hn hu ht hl hz h ih => exact .rf t s n z es u ys hS (hh _ _ hH) hn hu ht hl hz ih
  | ad t i o z es e e' hS hH he hU hz h ih => exact .ad t i o z es e e' hS (hh _ _ hH) he hU hz ih
  | pr e e' o hU hz h ih => exact .pr e e' o hU hz ih

end Go.Am
/-! Two instructions change places. -/
namespace Go.Am
set_option linter.unusedVariables false
set_option linter.unusedSimpArgs false

def callOf (fr : Fr) : AOp → Option (Nat × List AV)
  | .call _ f args => some (f, args.map (·.ev fr))
  | .callv _ t args => match fr t with
    | .fn g caps => some (g, args.map (·.ev fr) ++ caps)
    | _ => none
  | _ => none

theorem callOf_congr {fr fr' : Fr} {op : AOp} (h : ∀ s ∈ op.slots, fr s = fr' s) : callOf fr op = callOf fr' op := by
  cases op <;> simp only [AOp.slots] at h <;> simp only [callOf]
  case call r f l => rw [evs_congr h]
  case callv r t l => rw [h t (by simp), evs_congr fun s hs => h s (by simp [hs])]

/-- What an instruction that is no raw call does. -/
inductive Does (P : Program) (x : AI) (tok : Nat) (fr : Fr) (H : Heap) (n : Nat) (v : AV) (H1 : Heap) (c : Nat) : Prop
  | run (h : x.op.cls ≠ .pc) (hr : x.op.run fr H tok = some (v, H1)) (hc : c = 0) (hf : ∀ s ∈ x.fl, tokKept H H1 (fr s))
  | call (h : x.op.cls = .pc) (f : Nat) (args args' : List AV) (R : Nat → AV) (S : Nat → Prop) (U : Prop) (ho : callOf fr x.op = some (f, args)) (hp : PC P f args' R c U) (hv : Vws H S args args') (hU : U → ∀ t, ¬ S t) (hR : v = R n) (hH : H1 = H)

theorem awpX_run {P : Program} {x : AI} {tok : Nat} {σ : St} {K : St → Prop} (h1 : x.op.cls ≠ .pc) (h2 : x.op.cls ≠ .raw) :
    awpX P x tok σ K ↔ ∃ v H1, x.op.run σ.fr σ.H tok = some (v, H1) ∧ (∀ s ∈ x.fl, tokKept σ.H H1 (σ.fr s)) ∧ K ⟨σ.fr.put x.d v, H1, σ.n⟩ := by
  unfold awpX
  split
  · rename_i r f l e; rw [e] at h1 h2; cases r <;> simp [AOp.cls] at h1 h2
  · rename_i r f l e; rw [e] at h1 h2; cases r <;> simp [AOp.cls] at h1 h2
  · split
    · rename_i v H' e
      constructor
      · intro h; exact ⟨v, H', e, h⟩
      · rintro ⟨v', H1, e', h⟩; rw [e] at e'; cases e'; exact h
    · rename_i e
      constructor
      · intro h; exact h.elim
      · rintro ⟨v', H1, e', h⟩; rw [e] at e'; cases e'

theorem awpX_call {P : Program} {x : AI} {tok : Nat} {σ : St} {K : St → Prop} {r : Bool} (h : x.op.cls = if r then .raw else .pc) :
    awpX P x tok σ K ↔ ∃ f args, callOf σ.fr x.op = some (f, args) ∧ awpC P r f args x.d x.fl σ K := by
  have hr : ∀ r', (if r' = true then Cls.raw else Cls.pc) = (if r = true then Cls.raw else Cls.pc) → r' = r := by intro r'; cases r <;> cases r' <;> simp
  unfold awpX
  split
  · rename_i r' f l e
    rw [e] at h
    have := hr r' h; subst this
    constructor
    · intro hh; exact ⟨f, _, by rw [e]; rfl, hh⟩
    · rintro ⟨f', a', e', hh⟩; rw [e] at e'; cases e'; exact hh
  · rename_i r' f l e
    rw [e] at h
    have := hr r' h; subst this
    constructor
    · intro hh
      cases hv : σ.fr f with
      | fn g caps => rw [hv] at hh; exact ⟨g, _, by rw [e]; simp only [callOf, hv], hh⟩
      | _ => rw [hv] at hh; exact hh.elim
    · rintro ⟨f', a', e', hh⟩
      rw [e] at e'
      simp only [callOf] at e'
      cases hv : σ.fr f with
      | fn g caps => rw [hv] at e'; cases e'; exact hh
      | _ => rw [hv] at e'; cases e'
  · rename_i h1 h2
    exfalso
    cases hop : x.op <;> rw [hop] at h <;> first
      | exact h1 _ _ _ hop
      | exact h2 _ _ _ hop
      | (cases r <;> simp [AOp.cls] at h)

theorem awpX_does {P : Program} {x : AI} {tok : Nat} {σ : St} {K : St → Prop} (h2 : x.op.cls ≠ .raw) :
    awpX P x tok σ K ↔ ∃ v H1 c, Does P x tok σ.fr σ.H σ.n v H1 c ∧ K ⟨σ.fr.put x.d v, H1, σ.n + c⟩ := by
  by_cases h1 : x.op.cls = .pc
  · rw [awpX_call (r := false) h1]
    constructor
    · rintro ⟨f, args, e, args', R, c, S, U, k1, k2, k3, k4⟩
      exact ⟨_, _, c, .call h1 f args args' R S U e k1 k2 k3 rfl rfl, k4⟩
    · rintro ⟨v, H1, c, hd, hk⟩
      cases hd with
      | run h => exact absurd h1 h
      | call _ f args args' R S U e k1 k2 k3 hR hH => subst hR hH; exact ⟨f, args, e, args', R, c, S, U, k1, k2, k3, hk⟩
  · rw [awpX_run h1 h2]
    constructor
    · rintro ⟨v, H1, k1, k2, k3⟩
      exact ⟨v, H1, 0, .run h1 k1 rfl k2, k3⟩
    · rintro ⟨v, H1, c, hd, hk⟩
      cases hd with
      | run h k1 k2 k3 => subst k2; exact ⟨v, H1, k1, k3, hk⟩
      | call h => exact absurd h h1

section
variable {P : Program} {x : AI} {tok : Nat} {f1 f2 : Fr} {H H' H1 : Heap} {n1 n2 : Nat} {v : AV} {c : Nat}

theorem Does.fr (h : Does P x tok f1 H n1 v H1 c) (hs : ∀ s ∈ x.op.slots, f1 s = f2 s) (hf : ∀ s ∈ x.fl, f1 s = f2 s) : Does P x tok f2 H n1 v H1 c := by
  cases h with
  | run h k1 k2 k3 => exact .run h (by rw [← run_congr hs]; exact k1) k2 (fun s hs' => by rw [← hf s hs']; exact k3 s hs')
  | call h f args args' R S U e k1 k2 k3 k4 k5 => exact .call h f args args' R S U (by rw [← callOf_congr hs]; exact e) k1 k2 k3 k4 k5

theorem Does.fl (h : Does P x tok f1 H n1 v H1 c) {y : AI} (ho : y.op = x.op) (hf : ∀ s ∈ y.fl, s ∈ x.fl) : Does P y tok f1 H n1 v H1 c := by
  cases h with
  | run h k1 k2 k3 => exact .run (by rw [ho]; exact h) (by rw [ho]; exact k1) k2 (fun s hs' => k3 s (hf s hs'))
  | call h f args args' R S U e k1 k2 k3 k4 k5 => exact .call (by rw [ho]; exact h) f args args' R S U (by rw [ho]; exact e) k1 k2 k3 k4 k5

theorem Does.n (h : Does P x tok f1 H n1 v H1 c) (h1 : x.op.cls ≠ .pc) : Does P x tok f1 H n2 v H1 c := by
  cases h with
  | run h k1 k2 k3 => exact .run h k1 k2 k3
  | call h => exact absurd h h1

theorem Does.pure (h : Does P x tok f1 H n1 v H1 c) (hc : x.op.cls = .pure) : H1 = H ∧ c = 0 ∧ ∀ H' n', Does P x tok f1 H' n' v H' 0 := by
  cases h with
  | run h k1 k2 k3 =>
    obtain ⟨e1, e2⟩ := run_pure hc k1
    exact ⟨e1, k2, fun H' n' => .run h (e2 _ _) rfl (fun s _ => kept_refl _ _)⟩
  | call h => rw [hc] at h; cases h

theorem Does.load (h : Does P x tok f1 H n1 v H1 c) (hc : x.op.cls = .load) : H1 = H ∧ c = 0 ∧ ∀ H' n', (∀ a, x.op.adr = some a → tokKept H H' (a.ev f1)) → Does P x tok f1 H' n' v H' 0 := by
  cases h with
  | run h k1 k2 k3 =>
    obtain ⟨e1, e2⟩ := run_load hc k1
    exact ⟨e1, k2, fun H' n' hk => .run h (e2 _ _ hk) rfl (fun s _ => kept_refl _ _)⟩
  | call h => rw [hc] at h; cases h

theorem Does.alloc (h : Does P x tok f1 H n1 v H1 c) (hc : x.op.cls = .alloc) (hfl : x.fl = []) : ∃ b, H1 = H.upd tok b ∧ c = 0 ∧ ∀ H' n', Does P x tok f1 H' n' v (H'.upd tok b) 0 := by
  cases h with
  | run h k1 k2 k3 =>
    obtain ⟨b, e1, e2⟩ := run_alloc hc k1
    exact ⟨b, e1, k2, fun H' n' => .run h (e2 _) rfl (fun s hs => by rw [hfl] at hs; cases hs)⟩
  | call h => rw [hc] at h; cases h

theorem Does.wr (h : Does P x tok f1 H n1 v H1 c) (hc : x.op.cls = .wr) {ti : Nat} (hti : H ti = none) (hne : tok ≠ ti) (b : Blk) : c = 0 ∧ ∀ n', Does P x tok f1 (H.upd ti b) n' v (H1.upd ti b) 0 := by
  cases h with
  | run h k1 k2 k3 =>
    refine ⟨k2, fun n' => .run h (run_wr hc hti hne k1) rfl (fun s hs => ?_)⟩
    have := k3 s hs
    revert this
    cases f1 s <;> simp only [tokKept] <;> try (intro; trivial)
    all_goals
      intro hk u hu
      simp only [Heap.upd] at hu ⊢
      split at hu
      · rename_i e; rw [if_pos e]; exact hu
      · rename_i e; rw [if_neg e]; exact hk _ hu
  | call h => rw [hc] at h; cases h

theorem Does.pcx (h : Does P x tok f1 H n1 v H1 c) (hc : x.op.cls = .pc) : H1 = H ∧ ∀ H', (∀ u b, H u = some b → H' u = some b) → Does P x tok f1 H' n1 v H' c := by
  cases h with
  | run h => exact absurd hc h
  | call h f args args' R S U e k1 k2 k3 k4 k5 =>
    exact ⟨k5, fun H' hh => .call h f args args' R S U e k1 ⟨k2.1, fun j x y hx hy => (k2.2 j x y hx hy).ext hh⟩ k3 k4 rfl⟩
end

def dstNot (d : Option Nat) (l : List Nat) : Bool :=
  match d with
  | some d => !l.contains d
  | none => true

/-- May i run before x, which stands before it in the list? -/
def clsOk (x i : AI) : Bool :=
  match x.op.cls, i.op.cls with
  | .pure, _ => true
  | .raw, _ => false
  | _, .pure => true
  | .load, .load => true
  | .load, .alloc => i.fl.isEmpty
  | .load, .pc => true
  | .load, .wr => match x.op.adr with
    | some (.t s) => i.fl.contains s && dstNot x.d [s]
    | some (.c (.ad _ _ _)) => false
    | some (.c (.rf _ _ _)) => false
    | _ => true
  | .load, .raw => match x.op.adr with
    | some (.t s) => i.fl.contains s && dstNot x.d [s]
    | some (.c (.ad _ _ _)) => false
    | some (.c (.rf _ _ _)) => false
    | _ => true
  | .alloc, .alloc => x.fl.isEmpty && i.fl.isEmpty
  | .pc, .load => true
  | .pc, .alloc => i.fl.isEmpty
  | .wr, .alloc => i.fl.isEmpty
  | _, _ => false

def dstNe (d e : Option Nat) : Bool :=
  match d, e with
  | some d, some e => d != e
  | _, _ => true

def gslot (x : AI) : List Nat :=
  match x.g with
  | some (s, _) => [s]
  | none => []

def okPair (x i : AI) : Bool :=
  clsOk x i && dstNot x.d (gslot i ++ i.op.slots) && dstNot i.d (gslot x ++ x.op.slots) && dstNe x.d i.d && dstNot i.d x.fl

/-- The instruction after it has passed x. -/
def AI.past (i x : AI) : AI := { i with fl := i.fl.filter fun s => dstNot x.d [s] }

theorem put_other {fr : Fr} {d : Option Nat} {v : AV} {l : List Nat} (h : dstNot d l = true) : ∀ s ∈ l, (fr.put d v) s = fr s := by
  intro s hs
  cases d with
  | none => rfl
  | some d =>
    simp only [dstNot, Bool.not_eq_true', List.contains_eq_mem, decide_eq_false_iff_not] at h
    simp only [Fr.put, Fr.set]
    rw [if_neg (by intro e; subst e; exact h hs)]

theorem put_comm {fr : Fr} {d e : Option Nat} {v u : AV} (h : dstNe d e = true) : (fr.put d v).put e u = (fr.put e u).put d v := by
  cases d with
  | none => rfl
  | some d =>
    cases e with
    | none => rfl
    | some e =>
      simp only [dstNe, bne_iff_ne, ne_eq] at h
      funext k
      simp only [Fr.put, Fr.set]
      by_cases h1 : k = d <;> by_cases h2 : k = e <;> simp [h1, h2]
      · subst h1; subst h2; exact absurd rfl h
      · subst h1; intro h3; exact absurd h3 h
      · subst h2; intro h3; exact absurd h3.symm h

theorem dstNot_append {d : Option Nat} {l m : List Nat} (h : dstNot d (l ++ m) = true) : dstNot d l = true ∧ dstNot d m = true := by
  cases d with
  | none => exact ⟨rfl, rfl⟩
  | some d => simpa [dstNot] using h

theorem past_fl {fr : Fr} {i x : AI} {v : AV} {s : Nat} (hs : s ∈ (i.past x).fl) : s ∈ i.fl ∧ (fr.put x.d v) s = fr s := by
  simp only [AI.past, List.mem_filter] at hs
  exact ⟨hs.1, put_other hs.2 s (by simp)⟩

/-- TWO INSTRUCTIONS CHANGE PLACES. -/
theorem swapX {P : Program} {x i : AI} {tx ti : Nat} {σ : St} {K : St → Prop} (hc : clsOk x i = true) (h1 : dstNot x.d i.op.slots = true) (h2 : dstNot i.d x.op.slots = true) (h3 : dstNe x.d i.d = true) (h4 : dstNot i.d x.fl = true)
    (hne : tx ≠ ti) (hti : σ.H ti = none) (h : awpX P x tx σ fun σ1 => awpX P i ti σ1 K) : awpX P (i.past x) ti σ fun σ1 => awpX P x tx σ1 K := by
  have hxr : x.op.cls ≠ .raw := by intro e; simp [clsOk, e] at hc
  obtain ⟨v, H1, c, hx, hk⟩ := (awpX_does hxr).1 h
  have eS : ∀ s ∈ i.op.slots, (σ.fr.put x.d v) s = σ.fr s := put_other h1
  have eX : ∀ {u H' n' v' H1' c'}, Does P x tx σ.fr H' n' v' H1' c' → Does P x tx (σ.fr.put i.d u) H' n' v' H1' c' := fun hx => hx.fr (fun s hs => (put_other h2 s hs).symm) (fun s hs => (put_other h4 s hs).symm)
  -- a load behind a writer
  have eL : ∀ H', x.op.cls = .load → (i.op.cls = .wr ∨ i.op.cls = .raw) → (∀ s ∈ i.fl, tokKept σ.H H' ((σ.fr.put x.d v) s)) → ∀ n', Does P x tx σ.fr H' n' v H' 0 := by
    intro H' hl hi hk n'
    refine (hx.load hl).2.2 H' n' fun a ha => ?_
    have hcc : (match x.op.adr with
        | some (.t s) => i.fl.contains s && dstNot x.d [s]
        | some (.c (.ad _ _ _)) => false
        | some (.c (.rf _ _ _)) => false
        | _ => true) = true := by
      rcases hi with hi | hi <;> simpa [clsOk, hl, hi] using hc
    rw [ha] at hcc
    cases a with
    | t s =>
      simp only [Bool.and_eq_true, List.contains_eq_mem, decide_eq_true_eq] at hcc
      have hm : s ∈ i.fl := hcc.1
      have := hk s hm
      have e : (σ.fr.put x.d v) s = σ.fr s := by
        exact put_other (l := [s]) hcc.2 s (by simp)
      rw [e] at this; exact this
    | c w => cases w <;> simp at hcc <;> simp [AO.ev, tokKept]
  by_cases hir : i.op.cls = .raw
  · obtain ⟨f, args, e, hm⟩ := (awpX_call (r := true) hir).1 hk
    refine (awpX_call (x := i.past x) (r := true) hir).2 ⟨f, args, (callOf_congr eS).symm.trans e, ?_⟩
    have hxx : H1 = σ.H ∧ c = 0 ∧ ∀ H' n', (∀ s ∈ i.fl, tokKept σ.H H' ((σ.fr.put x.d v) s)) → Does P x tx σ.fr H' n' v H' 0 := by
      cases hcx : x.op.cls <;> simp [clsOk, hcx, hir] at hc
      · obtain ⟨e1, e2, e3⟩ := hx.pure hcx
        exact ⟨e1, e2, fun H' n' _ => e3 H' n'⟩
      · obtain ⟨e1, e2, _⟩ := hx.load hcx
        exact ⟨e1, e2, fun H' n' hk => eL H' hcx (.inr hir) hk n'⟩
    obtain ⟨rfl, rfl, e3⟩ := hxx
    refine MC.mono hm fun v' H' n' hq => ⟨fun s hs => ?_, ?_⟩
    · obtain ⟨hs1, hs2⟩ := past_fl (fr := σ.fr) (v := v) hs
      have := hq.1 s hs1
      simp only [hs2] at this
      exact this
    · refine (awpX_does hxr).2 ⟨v, H', 0, eX (e3 H' n' hq.1), ?_⟩
      have := hq.2
      simp only [AI.past, put_comm h3] at this ⊢
      exact this
  · obtain ⟨u, H2, c2, hi, hkk⟩ := (awpX_does hir).1 hk
    have hi' : Does P (i.past x) ti σ.fr H1 (σ.n + c) u H2 c2 := (hi.fl (y := i.past x) rfl fun s hs => (past_fl (fr := σ.fr) (v := v) hs).1).fr eS fun s hs => (past_fl (fr := σ.fr) (v := v) hs).2
    have fin : ∀ Hm c2' c', Does P (i.past x) ti σ.fr σ.H σ.n u Hm c2' → Does P x tx σ.fr Hm (σ.n + c2') v H2 c' → σ.n + c2' + c' = σ.n + c + c2 → awpX P (i.past x) ti σ fun σ1 => awpX P x tx σ1 K := by
      intro Hm c2' c' d1 d2 hn
      refine (awpX_does (x := i.past x) hir).2 ⟨u, Hm, c2', d1, (awpX_does hxr).2 ⟨v, H2, c', eX d2, ?_⟩⟩
      simp only [AI.past, put_comm h3] at hkk ⊢
      simp only [hn]
      exact hkk
    have hpf : ∀ c, (i.past x).op.cls = c ↔ i.op.cls = c := fun c => Iff.rfl
    have hfe : i.fl = [] → (i.past x).fl = [] := fun e => by simp [AI.past, e]
    by_cases hip : i.op.cls = .pure
    · obtain ⟨rfl, rfl, e3⟩ := hi'.pure hip
      exact fin σ.H 0 c (e3 _ _) hx (by omega)
    by_cases hxp : x.op.cls = .pure
    · obtain ⟨rfl, rfl, e3⟩ := hx.pure hxp
      exact fin H2 c2 0 hi' (e3 _ _) (by omega)
    cases hcx : x.op.cls <;> cases hci : i.op.cls <;> simp [clsOk, hcx, hci] at hc hip hxp hir
    · -- load, load
      obtain ⟨rfl, rfl, _⟩ := hx.load hcx
      obtain ⟨rfl, rfl, e3⟩ := hi'.load hci
      exact fin _ 0 0 hi' hx (by omega)
    · -- load, alloc
      obtain ⟨rfl, rfl, e3⟩ := hx.load hcx
      obtain ⟨b, rfl, rfl, e4⟩ := hi'.alloc hci (hfe hc)
      exact fin _ 0 0 hi' (e3 _ _ fun a _ => kept_upd hti _) (by omega)
    · -- load, wr
      obtain ⟨rfl, rfl, e3⟩ := hx.load hcx
      refine fin _ c2 0 hi' (eL H2 hcx (.inl hci) ?_ _) (by omega)
      cases hi with
      | run _ _ _ hk => exact hk
      | call h => rw [hci] at h; cases h
    · -- load, pc
      obtain ⟨rfl, rfl, e3⟩ := hx.load hcx
      obtain ⟨rfl, _⟩ := hi'.pcx hci
      exact fin _ c2 0 hi' (e3 _ _ fun a _ => kept_refl _ _) (by omega)
    · -- alloc, alloc
      obtain ⟨b, rfl, rfl, e3⟩ := hx.alloc hcx hc.1
      obtain ⟨b', rfl, rfl, e4⟩ := hi'.alloc hci (hfe hc.2)
      refine fin _ 0 0 (e4 _ _) ?_ (by omega)
      rw [upd_comm hne]
      exact e3 _ _
    · -- wr, alloc
      obtain ⟨b', rfl, rfl, e4⟩ := hi'.alloc hci (hfe hc)
      obtain ⟨rfl, e5⟩ := hx.wr hcx hti hne b'
      exact fin _ 0 0 (e4 _ _) (e5 _) (by omega)
    · -- pc, load
      obtain ⟨rfl, e3⟩ := hx.pcx hcx
      obtain ⟨rfl, rfl, e4⟩ := hi'.load hci
      exact fin _ 0 c (e4 _ _ fun a _ => kept_refl _ _) hx (by omega)
    · -- pc, alloc
      obtain ⟨rfl, e3⟩ := hx.pcx hcx
      obtain ⟨b, rfl, rfl, e4⟩ := hi'.alloc hci (hfe hc)
      exact fin _ 0 c (e4 _ _) (e3 _ (upd_ext hti)) (by omega)

end Go.Am
/-! One instruction comes to the front; every order of a region. -/
namespace Go.Am
set_option linter.unusedVariables false
set_option linter.unusedSimpArgs false

/-- What an instruction with a guard comes to. -/
def AI.now (fr : Fr) (i : AI) : Option AI :=
  match i.g with
  | none => some i
  | some (s, want) => match fr s with
    | .b x => some (if x = want then i else ⟨i.d, .mv (.c (.tup [])), none, []⟩)
    | .tup [] => some ⟨i.d, .mv (.c (.tup [])), none, []⟩
    | _ => none

theorem awpI_now {P : Program} {i : AI} {tok : Nat} {σ : St} {K : St → Prop} : awpI P i tok σ K ↔ ∃ j, i.now σ.fr = some j ∧ awpX P j tok σ K := by
  unfold awpI AI.now
  cases hg : i.g with
  | none => simp
  | some p =>
    obtain ⟨s, want⟩ := p
    simp only
    cases hv : σ.fr s with
    | b x =>
      simp only [Option.some.injEq, exists_eq_left']
      by_cases e : x = want
      · rw [if_pos e, if_pos e]
      · rw [if_neg e, if_neg e]
        simp [awpX, AOp.run, AO.ev]
    | tup l =>
      cases l with
      | nil => simp [awpX, AOp.run, AO.ev]
      | cons _ _ => simp
    | _ => simp

theorem now_cases {fr : Fr} {i j : AI} (h : i.now fr = some j) : j = i ∨ j = ⟨i.d, .mv (.c (.tup [])), none, []⟩ := by
  unfold AI.now at h
  split at h
  · cases h; exact .inl rfl
  · split at h
    · rename_i s want _ _ x _
      cases h
      by_cases e : x = want
      · rw [if_pos e]; exact .inl rfl
      · rw [if_neg e]; exact .inr rfl
    · cases h; exact .inr rfl
    · cases h

theorem now_congr {fr fr' : Fr} {i : AI} (h : ∀ s ∈ gslot i, fr s = fr' s) : i.now fr = i.now fr' := by
  unfold AI.now
  unfold gslot at h
  split
  · rfl
  · rename_i s want hg
    rw [hg] at h
    rw [h s (by simp)]

theorem now_past {fr : Fr} {i x j : AI} (h : i.now fr = some j) : (i.past x).now fr = some (j.past x) := by
  have hg : (i.past x).g = i.g := rfl
  unfold AI.now at *
  rw [hg]
  cases e : i.g with
  | none => rw [e] at h; cases h; rfl
  | some p =>
    obtain ⟨s, want⟩ := p
    rw [e] at h
    simp only at h ⊢
    cases hv : fr s with
    | b y =>
      rw [hv] at h
      simp only [Option.some.injEq] at h ⊢
      subst h
      by_cases e : y = want
      · rw [if_pos e, if_pos e]
      · rw [if_neg e, if_neg e]; rfl
    | tup l =>
      cases l with
      | nil => rw [hv] at h; simp only [Option.some.injEq] at h ⊢; subst h; rfl
      | cons _ _ => rw [hv] at h; cases h
    | _ => rw [hv] at h; cases h

theorem run_none {fr : Fr} {H H1 : Heap} {tok : Nat} {op : AOp} {v : AV} (h : op.run fr H tok = some (v, H1)) : ∀ t, t ≠ tok → H t = none → H1 t = none := by
  intro t ht hn
  cases hc : op.cls with
  | pure => rw [(run_pure hc h).1]; exact hn
  | load => rw [(run_load hc h).1]; exact hn
  | alloc =>
    obtain ⟨b, e, _⟩ := run_alloc hc h
    rw [e]; simp only [Heap.upd]; rw [if_neg ht]; exact hn
  | pc => cases op <;> first | (simp [AOp.cls] at hc; done) | (simp [AOp.run] at h; done)
  | raw => cases op <;> first | (simp [AOp.cls] at hc; done) | (simp [AOp.run] at h; done)
  | wr =>
    cases op <;> simp only [AOp.cls] at hc <;> first | (cases hc; done) | (split at hc <;> cases hc; done) | skip
    all_goals simp only [AOp.run] at h
    case st s a x =>
      split at h
      · rename_i t' i o ha
        split at h
        · rename_i z es hH
          split at h
          · rename_i e he
            split at h
            · rename_i hh
              cases h
              have : t ≠ t' := by intro e; subst e; rw [hn] at hH; cases hH
              simp only [Heap.upd]; rw [if_neg this]; exact hn
            · cases h
          · cases h
        · cases h
      · cases h
    case app sz b x y =>
      split at h
      · cases h
      · split at h
        · split at h
          · split at h
            · cases h; exact hn
            · split at h
              · cases h; simp only [Heap.upd]; rw [if_neg ht]; exact hn
              · cases h
          · rename_i t' n hx
            split at h
            · split at h
              · split at h
                · cases h; exact hn
                · cases h
                  simp only [Heap.upd, Heap.off]; rw [if_neg ht]; split
                  · rfl
                  · exact hn
              · cases h
            · cases h
          · cases h
        · cases h

/-- What is behind an instruction: the frame, and what has not been made. -/
theorem awpX_mono {P : Program} {j : AI} {tok : Nat} {σ : St} {K K' : St → Prop} (hk : ∀ σ1, (∃ v, σ1.fr = σ.fr.put j.d v) → (j.op.cls ≠ .raw → ∀ t, t ≠ tok → σ.H t = none → σ1.H t = none) → K σ1 → K' σ1) (h : awpX P j tok σ K) : awpX P j tok σ K' := by
  by_cases hr : j.op.cls = .raw
  · obtain ⟨f, args, e, hm⟩ := (awpX_call (r := true) hr).1 h
    refine (awpX_call (r := true) hr).2 ⟨f, args, e, MC.mono hm fun v H' n' hq => ⟨hq.1, hk _ ⟨v, rfl⟩ (fun hx => absurd hr hx) hq.2⟩⟩
  · obtain ⟨v, H1, c, hd, hkk⟩ := (awpX_does hr).1 h
    refine (awpX_does hr).2 ⟨v, H1, c, hd, hk _ ⟨v, rfl⟩ (fun _ t ht hn => ?_) hkk⟩
    cases hd with
    | run _ k1 _ _ => exact run_none k1 t ht hn
    | call _ _ _ _ _ _ _ _ _ _ _ _ hH => simp only [hH]; exact hn

theorem awpI_mono {P : Program} {j : AI} {tok : Nat} {σ : St} {K K' : St → Prop} (hr : j.op.cls ≠ .raw) (hk : ∀ σ1, (∃ v, σ1.fr = σ.fr.put j.d v) → (∀ t, t ≠ tok → σ.H t = none → σ1.H t = none) → K σ1 → K' σ1) (h : awpI P j tok σ K) : awpI P j tok σ K' := by
  obtain ⟨k, e, hx⟩ := awpI_now.1 h
  refine awpI_now.2 ⟨k, e, awpX_mono (fun σ1 h1 h2 h3 => hk σ1 ?_ (h2 ?_) h3) hx⟩
  · rcases now_cases e with rfl | rfl <;> exact h1
  · rcases now_cases e with rfl | rfl
    · exact hr
    · simp [AOp.cls]

theorem okPair_raw {x i : AI} (h : okPair x i = true) : x.op.cls ≠ .raw := by
  intro e
  simp [okPair, clsOk, e] at h

theorem clsOk_nopL {x i : AI} {d : Option Nat} : clsOk ⟨d, .mv (.c (.tup [])), none, []⟩ i = true := by simp [clsOk, AOp.cls]
theorem clsOk_nopR {x : AI} (h : x.op.cls ≠ .raw) {d : Option Nat} : clsOk x ⟨d, .mv (.c (.tup [])), none, []⟩ = true := by
  cases e : x.op.cls <;> simp_all [clsOk, AOp.cls]

/-- Two instructions with their guards change places. -/
theorem swapI {P : Program} {x i : AI} {tx ti : Nat} {σ : St} {K : St → Prop} (ok : okPair x i = true) (hne : tx ≠ ti) (hti : σ.H ti = none) (h : awpI P x tx σ fun σ1 => awpI P i ti σ1 K) :
    awpI P (i.past x) ti σ fun σ1 => awpI P x tx σ1 K := by
  have hxr := okPair_raw ok
  simp only [okPair, Bool.and_eq_true] at ok
  obtain ⟨⟨⟨⟨c1, c2⟩, c3⟩, c4⟩, c5⟩ := ok
  obtain ⟨g1, s1⟩ := dstNot_append c2
  obtain ⟨g2, s2⟩ := dstNot_append c3
  obtain ⟨x', ex, hx⟩ := awpI_now.1 h
  have hx'r : x'.op.cls ≠ .raw := by
    rcases now_cases ex with rfl | rfl
    · exact hxr
    · simp [AOp.cls]
  have dx : x'.d = x.d := by rcases now_cases ex with rfl | rfl <;> rfl
  have hi' : ∃ i', i.now σ.fr = some i' ∧ awpX P x' tx σ fun σ1 => awpX P i' ti σ1 K := by
    obtain ⟨v, H1, c, hd, hk⟩ := (awpX_does hx'r).1 hx
    obtain ⟨i', ei, hi⟩ := awpI_now.1 hk
    refine ⟨i', ?_, (awpX_does hx'r).2 ⟨v, H1, c, hd, hi⟩⟩
    rw [← ei]
    refine now_congr fun s hs => ?_
    rw [dx]
    exact (put_other g1 s hs).symm
  obtain ⟨i', ei, hxi⟩ := hi'
  have di : i'.d = i.d := by rcases now_cases ei with rfl | rfl <;> rfl
  have sw := swapX (x := x') (i := i') (tx := tx) (ti := ti) (σ := σ) (K := K) ?_ ?_ ?_ ?_ ?_ hne hti hxi
  · refine awpI_now.2 ⟨i'.past x, now_past ei, ?_⟩
    have e : i'.past x' = i'.past x := by unfold AI.past; rw [dx]
    rw [e] at sw
    refine awpX_mono (fun σ1 h1 _ h3 => ?_) sw
    refine awpI_now.2 ⟨x', ?_, h3⟩
    rw [← ex]
    obtain ⟨v, hv⟩ := h1
    rw [hv]
    refine now_congr fun s hs => ?_
    have : (i'.past x).d = i.d := di
    rw [this]
    exact put_other g2 s hs
  · rcases now_cases ex with e1 | e1 <;> rcases now_cases ei with e2 | e2 <;> rw [e1, e2]
    · exact c1
    · exact clsOk_nopR hxr
    · exact clsOk_nopL (x := x)
    · exact clsOk_nopL (x := x)
  · rw [dx]; rcases now_cases ei with e2 | e2 <;> rw [e2]
    · exact s1
    · cases x.d <;> rfl
  · rw [di]; rcases now_cases ex with e2 | e2 <;> rw [e2]
    · exact s2
    · cases i.d <;> rfl
  · rw [dx, di]; exact c4
  · rw [di]; rcases now_cases ex with e2 | e2 <;> rw [e2]
    · exact c5
    · cases i.d <;> rfl

/-- The instructions in the order of a list; each has its own token. -/
def awpD (P : Program) (n0 : Nat) : List (Nat × AI) → St → (St → Prop) → Prop
  | [], σ, K => K σ
  | (k, i) :: r, σ, K => awpI P i (n0 + k) σ fun σ' => awpD P n0 r σ' K

/-- The instruction behind all before it, and may it pass them? -/
def passAll : List (Nat × AI) → AI → AI × Bool
  | [], i => (i, true)
  | (_, x) :: r, i => ((passAll r i).1.past x, (passAll r i).2 && okPair x (passAll r i).1)

theorem awpD_front {P : Program} {n0 : Nat} {K : St → Prop} {ki : Nat} {i : AI} {post : List (Nat × AI)} : ∀ (pre : List (Nat × AI)) (σ : St), (passAll pre i).2 = true → (∀ p ∈ pre, p.1 ≠ ki) → σ.H (n0 + ki) = none →
    awpD P n0 (pre ++ (ki, i) :: post) σ K → awpI P (passAll pre i).1 (n0 + ki) σ fun σ1 => awpD P n0 (pre ++ post) σ1 K
  | [], σ, _, _, _, h => h
  | (k, x) :: r, σ, hp, hne, hti, h => by
    simp only [passAll, Bool.and_eq_true] at hp
    have hk : k ≠ ki := hne (k, x) (by simp)
    refine swapI hp.2 (tx := n0 + k) (by omega) hti ?_
    refine awpI_mono (okPair_raw hp.2) (fun σ1 _ h2 h3 => ?_) (show awpI P x (n0 + k) σ fun σ' => awpD P n0 (r ++ (ki, i) :: post) σ' K from h)
    exact awpD_front r σ1 hp.1 (fun p hp' => hne p (List.mem_cons_of_mem _ hp')) (h2 _ (by omega) hti) h3

theorem passAll_same : ∀ (pre : List (Nat × AI)) (i : AI), (passAll pre i).1.d = i.d ∧ (passAll pre i).1.op = i.op ∧ (passAll pre i).1.g = i.g ∧ ∀ s ∈ (passAll pre i).1.fl, s ∈ i.fl
  | [], i => ⟨rfl, rfl, rfl, fun s hs => hs⟩
  | (k, x) :: r, i => by
    obtain ⟨h1, h2, h3, h4⟩ := passAll_same r i
    refine ⟨h1, h2, h3, fun s hs => ?_⟩
    simp only [passAll, AI.past, List.mem_filter] at hs
    exact h4 s hs.1

theorem clsOk_more {x i j : AI} (ho : j.op = i.op) (hf : ∀ s ∈ i.fl, s ∈ j.fl) (ha : i.op.cls = .alloc → j.fl = []) (h : clsOk x i = true) : clsOk x j = true := by
  unfold clsOk at *
  rw [ho]
  cases hx : x.op.cls <;> cases hi : i.op.cls <;> simp only [hx, hi] at h ⊢
  all_goals first
    | exact h
    | (simp only [ha hi, List.isEmpty_nil, Bool.and_true]; done)
    | skip
  all_goals first
    | (simp only [Bool.and_eq_true] at h; simp only [ha hi, List.isEmpty_nil, Bool.and_true]; exact h.1)
    | (split at h <;> simp_all; done)

theorem passAll_sub {i : AI} (ha : i.op.cls = .alloc → i.fl = []) : ∀ {pre pre' : List (Nat × AI)}, pre'.Sublist pre → (passAll pre i).2 = true → (passAll pre' i).2 = true ∧ ∀ s ∈ (passAll pre i).1.fl, s ∈ (passAll pre' i).1.fl := by
  intro pre pre' hs
  induction hs with
  | slnil => intro _; exact ⟨rfl, fun s hs => hs⟩
  | cons p hs ih =>
    rename_i l1 l2
    intro hp
    obtain ⟨k, x⟩ := p
    simp only [passAll, Bool.and_eq_true] at hp
    obtain ⟨h1, h2⟩ := ih hp.1
    refine ⟨h1, fun s hs => h2 s ?_⟩
    simp only [passAll, AI.past, List.mem_filter] at hs
    exact hs.1
  | cons_cons p hs ih =>
    rename_i l1 l2
    intro hp
    obtain ⟨k, x⟩ := p
    simp only [passAll, Bool.and_eq_true] at hp ⊢
    obtain ⟨h1, h2⟩ := ih hp.1
    refine ⟨⟨h1, ?_⟩, fun s hs => ?_⟩
    · have hok := hp.2
      obtain ⟨a1, a2, a3, a4⟩ := passAll_same l1 i
      obtain ⟨b1, b2, b3, b4⟩ := passAll_same l2 i
      simp only [okPair, Bool.and_eq_true] at hok ⊢
      obtain ⟨⟨⟨⟨c1, c2⟩, c3⟩, c4⟩, c5⟩ := hok
      rw [b1] at c3 c4 c5
      rw [b2] at c2
      have hg : gslot (passAll l2 i).1 = gslot i := by unfold gslot; rw [b3]
      have hg1 : gslot (passAll l1 i).1 = gslot i := by unfold gslot; rw [a3]
      rw [hg] at c2
      refine ⟨⟨⟨⟨clsOk_more (by rw [a2, b2]) h2 ?_ c1, ?_⟩, ?_⟩, ?_⟩, ?_⟩
      · rw [b2]
        intro hcl
        have := ha hcl
        cases hf : (passAll l1 i).1.fl with
        | nil => rfl
        | cons s t => have := a4 s (by rw [hf]; simp); simp_all
      · rw [hg1, a2]; exact c2
      · rw [a1]; exact c3
      · rw [a1]; exact c4
      · rw [a1]; exact c5
    · simp only [AI.past, List.mem_filter] at hs ⊢
      exact ⟨h2 s hs.1, hs.2⟩

end Go.Am
/-! Every order of a region that draws. -/
namespace Go.Am
set_option linter.unusedVariables false
set_option linter.unusedSimpArgs false

/-- The operations that one operation must follow. -/
def predsOf (o : Oper) : List Nat := o.after.toList.filterMap fun e => if Region.binds .any e then some e.on else none

def predsAt (ops : Array Oper) (k : Nat) : List Nat :=
  match ops[k]? with
  | some o => predsOf o
  | none => []

def lookT : List (Nat × Nat) → Nat → Nat
  | [], _ => 0
  | (j, m) :: r, k => if j = k then m else lookT r k

def maskOf (tab : List (Nat × Nat)) : List Nat → Nat
  | [] => 0
  | p :: r => (2 ^ p ||| lookT tab p) ||| maskOf tab r

def tabOf (preds : Nat → List Nat) : List Nat → List (Nat × Nat) → List (Nat × Nat)
  | [], tab => tab
  | k :: r, tab => tabOf preds r ((k, maskOf tab (preds k)) :: tab)

def flOk (i : AI) : Bool :=
  match i.op.cls with
  | .alloc => i.fl.isEmpty
  | _ => true

def checkL (preds : Nat → List Nat) (tab : List (Nat × Nat)) : List (Nat × AI) → List (Nat × AI) → Bool
  | _, [] => true
  | A, (k, i) :: B => !(A.map (·.1)).contains k && (preds k).all (fun e => (A.map (·.1)).contains e) && flOk i && (passAll (A.filter fun p => !(lookT tab k).testBit p.1) i).2 && checkL preds tab (A ++ [(k, i)]) B

/-- What must have run before. -/
inductive Anc (preds : Nat → List Nat) : Nat → Nat → Prop
  | base (x k : Nat) (h : x ∈ preds k) : Anc preds x k
  | step (x p k : Nat) (h : p ∈ preds k) (ha : Anc preds x p) : Anc preds x k

def TabOk (preds : Nat → List Nat) (tab : List (Nat × Nat)) : Prop := ∀ k x, (lookT tab k).testBit x = true → Anc preds x k

theorem maskOf_anc {preds : Nat → List Nat} {tab : List (Nat × Nat)} (ht : TabOk preds tab) : ∀ {ps : List Nat} {x : Nat}, (maskOf tab ps).testBit x = true → x ∈ ps ∨ ∃ p ∈ ps, Anc preds x p
  | [], x, h => by simp [maskOf] at h
  | p :: r, x, h => by
    simp only [maskOf, Nat.testBit_or, Bool.or_eq_true, Nat.testBit_two_pow, decide_eq_true_eq] at h
    rcases h with (h | h) | h
    · subst h; exact .inl (by simp)
    · exact .inr ⟨p, by simp, ht p x h⟩
    · rcases maskOf_anc ht h with h | ⟨q, hq, ha⟩
      · exact .inl (by simp [h])
      · exact .inr ⟨q, by simp [hq], ha⟩

theorem tabOf_ok {preds : Nat → List Nat} : ∀ (l : List Nat) (tab : List (Nat × Nat)), TabOk preds tab → TabOk preds (tabOf preds l tab)
  | [], tab, h => h
  | k :: r, tab, h => by
    refine tabOf_ok r _ fun j x hx => ?_
    simp only [lookT] at hx
    split at hx
    · rename_i e
      subst e
      rcases maskOf_anc h hx with h1 | ⟨p, hp, ha⟩
      · exact .base x k h1
      · exact .step x p k hp ha
    · exact h j x hx

theorem TabOk.nil {preds : Nat → List Nat} : TabOk preds [] := fun k x h => by simp [lookT] at h

theorem checkL_at {preds : Nat → List Nat} {tab : List (Nat × Nat)} : ∀ {L A0 : List (Nat × AI)}, checkL preds tab A0 L = true → ∀ {A B : List (Nat × AI)} {k : Nat} {i : AI}, L = A ++ (k, i) :: B →
    (∀ p ∈ A0 ++ A, p.1 ≠ k) ∧ (∀ e ∈ preds k, ∃ p ∈ A0 ++ A, p.1 = e) ∧ flOk i = true ∧ (passAll ((A0 ++ A).filter fun p => !(lookT tab k).testBit p.1) i).2 = true := by
  intro L
  induction L with
  | nil => intro A0 h A B k i e; simp at e
  | cons q r ih =>
    obtain ⟨k', i'⟩ := q
    intro A0 h A B k i e
    simp only [checkL, Bool.and_eq_true] at h
    cases A with
    | nil =>
      simp only [List.nil_append, List.cons.injEq, Prod.mk.injEq] at e
      obtain ⟨⟨rfl, rfl⟩, rfl⟩ := e
      obtain ⟨⟨⟨⟨h1, h2⟩, h3⟩, h4⟩, _⟩ := h
      simp only [List.append_nil]
      refine ⟨fun p hp e => ?_, fun e he => ?_, h3, h4⟩
      · simp only [Bool.not_eq_true', List.contains_eq_mem, decide_eq_false_iff_not, List.mem_map, not_exists, not_and] at h1
        exact h1 p hp e
      · have := List.all_eq_true.1 h2 e he
        simpa using this
    | cons a A =>
      simp only [List.cons_append, List.cons.injEq] at e
      obtain ⟨rfl, e⟩ := e
      have := ih h.2 e
      simpa using this

section
variable {P : Program} {rw : Nat → Bool} {rv : Bool} {E : Entry} {N : Nat} {ops : Array Oper}

/-- The instructions of a list are the operations of the region. -/
def Ins (P : Program) (rw : Nat → Bool) (rv : Bool) (N : Nat) (ops : Array Oper) (L : List (Nat × AI)) : Prop :=
  ∀ p ∈ L, ∃ o i0, ops[p.1]? = some o ∧ cop P rw rv N ops o = some i0 ∧ p.2.d = i0.d ∧ p.2.op = i0.op ∧ p.2.g = i0.g

theorem mem_ready {listed : Array Bool} {i : Nat} : i ∈ Region.ready .any ops listed ↔ i < ops.size ∧ listed.getD i true = false ∧ ∀ e ∈ predsAt ops i, listed.getD e false = true := by
  unfold Region.ready predsAt predsOf
  simp only [List.mem_filter, List.mem_range, Bool.and_eq_true, Bool.not_eq_true']
  constructor
  · rintro ⟨h1, h2, h3⟩
    refine ⟨h1, h2, ?_⟩
    rw [Array.getElem?_eq_getElem h1] at h3 ⊢
    simp only [Option.map_some, Option.getD_some, Array.all_eq_true', Bool.or_eq_true, Bool.not_eq_true'] at h3
    intro e he
    simp only [List.mem_filterMap, Array.mem_toList_iff] at he
    obtain ⟨x, hx, hh⟩ := he
    split at hh
    · rename_i hb
      cases hh
      rcases h3 x hx with h | h
      · rw [hb] at h; cases h
      · exact h
    · cases hh
  · rintro ⟨h1, h2, h3⟩
    refine ⟨h1, h2, ?_⟩
    rw [Array.getElem?_eq_getElem h1] at h3 ⊢
    simp only [Option.map_some, Option.getD_some, Array.all_eq_true', Bool.or_eq_true, Bool.not_eq_true']
    intro x hx
    cases hb : Region.binds .any x with
    | false => exact .inl rfl
    | true =>
      refine .inr (h3 _ ?_)
      simp only [List.mem_filterMap, Array.mem_toList_iff]
      exact ⟨x, hx, by rw [if_pos hb]⟩

theorem anc_listed {listed : Array Bool} (hdown : ∀ k, listed.getD k false = true → ∀ e ∈ predsAt ops k, listed.getD e false = true) {x k : Nat} (h : Anc (predsAt ops) x k) (hk : ∀ e ∈ predsAt ops k, listed.getD e false = true) : listed.getD x false = true := by
  induction h with
  | base k h => exact hk x h
  | step p k h _ ih => exact ih (hdown p (hk p h))

theorem any_sound {L : List (Nat × AI)} {tab : List (Nat × Nat)} (htab : TabOk (predsAt ops) tab) (hL : checkL (predsAt ops) tab [] L = true) (hcov : ∀ k, k < ops.size → ∃ p ∈ L, p.1 = k) (hins : Ins P rw rv N ops L)
    {Q : Exit → Act → World → Prop} {K : St → Prop} (hQ : ∀ β a w σ, Sim E β N a w σ → K σ → Q .normal a w) {n0 : Nat} (hE : E.n ≤ n0) : ∀ (fuel : Nat) (listed : Array Bool) (β : Bt) (a : Act) (w : World) (σ : St), listed.size = ops.size →
    (L.filter fun p => !listed.getD p.1 true).length = fuel → (∀ k, listed.getD k false = true → ∀ e ∈ predsAt ops k, listed.getD e false = true) → Sim E β N a w σ →
    Free β (fun t => ∃ p ∈ L.filter fun p => !listed.getD p.1 true, t = n0 + p.1) σ.n → awpD P n0 (L.filter fun p => !listed.getD p.1 true) σ K → wpAny P .any ops Q fuel listed a w := by
  have hlt : ∀ p ∈ L, p.1 < ops.size := by
    intro p hp
    obtain ⟨o, i0, h1, _⟩ := hins p hp
    exact (Array.getElem?_eq_some_iff.1 h1).1
  have hgd : ∀ (listed : Array Bool), listed.size = ops.size → ∀ k, k < ops.size → listed.getD k true = listed.getD k false := by
    intro listed hs k hk
    simp [Array.getD, hs, hk]
  have hnil : ∀ (listed : Array Bool), (L.filter fun p => !listed.getD p.1 true) = [] → Region.ready .any ops listed = [] := by
    intro listed he
    refine List.eq_nil_iff_forall_not_mem.2 fun i hi => ?_
    obtain ⟨h1, h2, _⟩ := mem_ready.1 hi
    obtain ⟨p, hp, rfl⟩ := hcov i h1
    have : p ∈ L.filter fun p => !listed.getD p.1 true := by simp only [List.mem_filter]; exact ⟨hp, by rw [h2]; rfl⟩
    rw [he] at this; cases this
  intro fuel
  induction fuel with
  | zero =>
    intro listed β a w σ hsz hlen hdown h hf hx
    have he := List.length_eq_zero_iff.1 hlen
    rw [he] at hx
    exact ⟨hnil listed he, hQ β a w σ h hx⟩
  | succ fuel ih =>
    intro listed β a w σ hsz hlen hdown h hf hx
    refine ⟨fun hr => ?_, fun ki hi => ?_⟩
    · exfalso
      cases hc : L.filter fun p => !listed.getD p.1 true with
      | nil => rw [hc] at hlen; simp at hlen
      | cons q r =>
        obtain ⟨A, B, e, hA, hq, hB⟩ := List.filter_eq_cons_iff.1 hc
        obtain ⟨k0, i0⟩ := q
        obtain ⟨_, g2, _, _⟩ := checkL_at hL e
        have hq' : listed.getD k0 true = false := by simpa using hq
        have : k0 ∈ Region.ready .any ops listed := by
          refine mem_ready.2 ⟨hlt (k0, i0) (by rw [e]; simp), hq', fun x hx => ?_⟩
          obtain ⟨p, hp, rfl⟩ := g2 x hx
          simp only [List.nil_append] at hp
          have := hA p hp
          rw [← hgd listed hsz p.1 (hlt p (by rw [e]; simp [hp]))]
          simpa using this
        rw [hr] at this; cases this
    · obtain ⟨h1, h2, h3⟩ := mem_ready.1 hi
      obtain ⟨q, hq, rfl⟩ := hcov ki h1
      obtain ⟨ki, i⟩ := q
      obtain ⟨A, B, e⟩ := List.append_of_mem hq
      obtain ⟨g1, g2, g3, g4⟩ := checkL_at hL e
      simp only [List.nil_append] at g1 g2 g4
      have g1B : ∀ p ∈ B, p.1 ≠ ki := by
        intro p hp
        obtain ⟨B1, B2, eB⟩ := List.append_of_mem hp
        obtain ⟨k1, _⟩ := checkL_at hL (A := A ++ (ki, i) :: B1) (B := B2) (k := p.1) (i := p.2) (by rw [e, eB]; simp)
        exact fun e' => (k1 (ki, i) (by simp)) e'.symm
      have hcur : (L.filter fun p => !listed.getD p.1 true) = (A.filter fun p => !listed.getD p.1 true) ++ (ki, i) :: (B.filter fun p => !listed.getD p.1 true) := by
        rw [e, List.filter_append, List.filter_cons_of_pos (by simpa using h2)]
      have hset : ∀ p : Nat × AI, p.1 ≠ ki → (listed.setIfInBounds ki true).getD p.1 true = listed.getD p.1 true := by
        intro p hp
        simp only [Array.getD_eq_getD_getElem?]
        rw [Array.getElem?_setIfInBounds_ne (fun e => hp e.symm)]
      have hcur' : (L.filter fun p => !(listed.setIfInBounds ki true).getD p.1 true) = (A.filter fun p => !listed.getD p.1 true) ++ (B.filter fun p => !listed.getD p.1 true) := by
        have hki : (listed.setIfInBounds ki true).getD ki true = true := by
          simp only [Array.getD_eq_getD_getElem?]
          rw [Array.getElem?_setIfInBounds_self_of_lt (by simp only at h1; omega)]
          rfl
        rw [e, List.filter_append, List.filter_cons_of_neg (by simp [hki])]
        congr 1
        · exact List.filter_congr fun p hp => by rw [hset p (g1 p hp)]
        · exact List.filter_congr fun p hp => by rw [hset p (g1B p hp)]
      have hsub : (A.filter fun p => !listed.getD p.1 true).Sublist (A.filter fun p => !(lookT tab ki).testBit p.1) := by
        have : (A.filter fun p => !listed.getD p.1 true) = ((A.filter fun p => !(lookT tab ki).testBit p.1).filter fun p => !listed.getD p.1 true) := by
          rw [List.filter_filter]
          refine List.filter_congr fun p hp => ?_
          cases hb : (lookT tab ki).testBit p.1 with
          | false => simp
          | true =>
            have := anc_listed hdown (htab ki p.1 hb) h3
            rw [← hgd listed hsz p.1 (hlt p (by rw [e]; simp [hp]))] at this
            simp [this]
        rw [this]
        exact List.filter_sublist
      have hfl : i.op.cls = .alloc → i.fl = [] := by
        intro ha
        unfold flOk at g3
        rw [ha] at g3
        simpa using g3
      obtain ⟨hpass, _⟩ := passAll_sub hfl hsub g4
      rw [hcur] at hx
      have hfree : β (n0 + ki) = none := (hf (n0 + ki) ⟨(ki, i), by rw [hcur]; simp, rfl⟩).1
      have hH : σ.H (n0 + ki) = none := by
        cases hh : σ.H (n0 + ki) with
        | none => rfl
        | some b =>
          obtain ⟨p, hp, _⟩ := h.hs.dom _ b hh
          rw [hfree] at hp; cases hp
      have hfront := awpD_front (A.filter fun p => !listed.getD p.1 true) σ hpass (fun p hp => g1 p (List.mem_filter.1 hp).1) hH hx
      obtain ⟨a1, a2, a3, _⟩ := passAll_same (A.filter fun p => !listed.getD p.1 true) i
      obtain ⟨o, i0, k1, k2, k3, k4, k5⟩ := hins (ki, i) hq
      refine awpI_sound h k1 k2 ⟨a1.trans k3, a2.trans k4, a3.trans k5⟩ hf ⟨(ki, i), by rw [hcur]; simp, rfl⟩ (by omega) hfront ?_
      intro β' a' w' σ' h' hf' hK
      refine ih _ β' a' w' σ' (by simp [hsz]) ?_ ?_ h' ?_ (by rw [hcur']; exact hK)
      · rw [hcur'] 
        rw [hcur] at hlen
        simp only [List.length_append, List.length_cons] at hlen ⊢
        omega
      · intro k hk x hxp
        have hmono : ∀ y, listed.getD y false = true → (listed.setIfInBounds ki true).getD y false = true := by
          intro y hy
          simp only [Array.getD_eq_getD_getElem?] at hy ⊢
          by_cases e : ki = y
          · subst e; rw [Array.getElem?_setIfInBounds_self_of_lt (by simp only at h1; omega)]; rfl
          · rw [Array.getElem?_setIfInBounds_ne e]; exact hy
        by_cases e : k = ki
        · subst e; exact hmono x (h3 x hxp)
        · refine hmono x (hdown k ?_ x hxp)
          simp only [Array.getD_eq_getD_getElem?] at hk ⊢
          rw [Array.getElem?_setIfInBounds_ne (fun e' => e e'.symm)] at hk
          exact hk
      · intro t ht
        obtain ⟨p, hp, rfl⟩ := ht
        rw [hcur'] at hp
        refine hf' _ ⟨⟨p, by rw [hcur]; simp only [List.mem_append, List.mem_cons] at hp ⊢; rcases hp with h | h; exact .inl h; exact .inr (.inr h), rfl⟩, ?_⟩
        have : p.1 ≠ ki := by
          rcases List.mem_append.1 hp with h | h
          · exact g1 p (List.mem_filter.1 h).1
          · exact g1B p (List.mem_filter.1 h).1
        omega
end

end Go.Am
