/-
  A part of the proof that the law FnExactSameAdjustments holds (abstract machine, walks, or the join). No conditions.
-/
import Derived.Test.YtdghdngpeidmnaaAmDefs
/-! The relation between machine values and abstract values, and between heaps. -/
namespace Go.Am

/-- Where a block lies that the call has made or was handed: its number, the cells of an element, the capacity; `dead`: an append has handed it on to a new token. -/
structure Pl where
  g : Nat
  sz : Nat
  cap : Nat
  dead : Bool

abbrev Bt := Nat → Option Pl

/-- The machine value stands for the abstract value. -/
inductive Rep (β : Bt) (ok : Nat → Prop) (w : World) : Value → AV → Prop
  | top (v : Value) : Rep β ok w v .top
  | b (x : Bool) : Rep β ok w (.bool x) (.b x)
  | i (k : IntKind) (m : Int) : Rep β ok w (.int k m) (.i k m)
  | s (x : ByteArray) : Rep β ok w (.string x) (.s x)
  | agg (vs : Array Value) (cs : List AV) (hl : vs.size = cs.length) (h : ∀ (j : Nat) (y : AV), cs[j]? = some y → Rep β ok w ((vs[j]?).getD undef) y) : Rep β ok w (.agg vs) (.agg cs)
  | tup (vs : Array Value) (cs : List AV) (hl : vs.size = cs.length) (h : ∀ (j : Nat) (y : AV), cs[j]? = some y → Rep β ok w ((vs[j]?).getD undef) y) : Rep β ok w (.tuple vs) (.tup cs)
  | nl : Rep β ok w (.slice none 0 0) .nl
  | sl0 (t : Option Nat) (a : Option Addr) (c : Nat) : Rep β ok w (.slice a 0 c) (.sl t [])
  | sl (g o c sz : Nat) (t : Option Nat) (xs : List AV) (cv : Nat → Nat → Value) (hc : xs.length ≤ c) (hg : ok g) (hlt : g < w.heap.size)
      (ht : ∀ k, t = some k → ∃ p, β k = some p ∧ p.g = g ∧ p.dead = false)
      (hs : ∀ (i : Nat) (x : AV), xs[i]? = some x → x.cells.length = sz)
      (hm : ∀ (i : Nat) (x : AV) (j : Nat), xs[i]? = some x → j < sz → w.cell? ⟨g, o + i * sz + j, none⟩ = some (cv i j))
      (hr : ∀ (i : Nat) (x : AV) (j : Nat) (y : AV), xs[i]? = some x → x.cells[j]? = some y → Rep β ok w (cv i j) y) : Rep β ok w (.slice (some ⟨g, o, none⟩) xs.length c) (.sl t xs)
  | rf (t s m : Nat) (a : Option Addr) (c : Nat) (p : Pl) (hp : β t = some p) (ha : (m ≠ 0 ∨ s = 0) → a = some ⟨p.g, s * p.sz, none⟩) (hc : m ≤ c) (h0 : s = 0 → c = p.cap) :
      Rep β ok w (.slice a m c) (.rf t s m)
  | pr (e : AV) (o g b : Nat) (cv : Nat → Value) (hg : ok g) (hlt : g < w.heap.size)
      (hm : ∀ j, j < e.cells.length → w.cell? ⟨g, b + j, none⟩ = some (cv j))
      (hr : ∀ (j : Nat) (y : AV), e.cells[j]? = some y → Rep β ok w (cv j) y) : Rep β ok w (.pointer (some ⟨g, b + o, none⟩)) (.pr e o)
  | ad (t i o : Nat) (p : Pl) (hp : β t = some p) : Rep β ok w (.pointer (some ⟨p.g, i * p.sz + o, none⟩)) (.ad t i o)
  | fn (f : Nat) (caps : List AV) (vs : Array Value) (hl : vs.size = caps.length) (h : ∀ (j : Nat) (y : AV), caps[j]? = some y → Rep β ok w ((vs[j]?).getD undef) y) : Rep β ok w (.func (.func f) #[] vs) (.fn f caps)

/-- A block that is neither walled off nor own. -/
def okB (X : Nat → Prop) (β : Bt) (H : Heap) (g : Nat) : Prop := ¬ X g ∧ ∀ t es p, H t = some es → β t = some p → p.g ≠ g

/-- The relation of the heaps. -/
structure HSim (X : Nat → Prop) (β : Bt) (w : World) (H : Heap) (n : Nat) : Prop where
  lt : ∀ t p, β t = some p → t < n
  inj : ∀ t t' p p', β t = some p → β t' = some p' → p.g = p'.g → p.dead = false → p'.dead = false → t = t'
  blk : ∀ t p, β t = some p → ¬ X p.g ∧ ∃ cur e, w.heap[p.g]? = some (.cells cur e (0, 0)) ∧ cur.size = p.cap * p.sz ∧ p.cap ≤ maxLen
  dom : ∀ t es, H t = some es → ∃ p, β t = some p ∧ p.dead = false ∧ p.sz = es.1 ∧ es.2.length ≤ p.cap ∧
    ∀ (i : Nat) (x : AV), es.2[i]? = some x → x.cells.length = p.sz ∧ ∀ (j : Nat) (y : AV), x.cells[j]? = some y → ∃ v, w.cell? ⟨p.g, i * p.sz + j, none⟩ = some v ∧ Rep β (okB X β H) w v y
  xlt : ∀ g, X g → g < w.heap.size

/-- One step of the tokens and the world, as what is there sees it. -/
structure Stp (β : Bt) (ok : Nat → Prop) (w : World) (β' : Bt) (ok' : Nat → Prop) (w' : World) : Prop where
  tok : ∀ t p, β t = some p → ∃ p', β' t = some p' ∧ p'.g = p.g ∧ p'.sz = p.sz ∧ p'.cap = p.cap
  tag : ∀ t p, β t = some p → p.dead = false → ok p.g → β' t = some p
  size : w.heap.size ≤ w'.heap.size
  okm : ∀ g, g < w.heap.size → ok g → ok' g
  cell : ∀ g o, g < w.heap.size → ok g → w'.cell? ⟨g, o, none⟩ = w.cell? ⟨g, o, none⟩

/-- A value stands for what it stood for, where blocks and tokens have been kept. -/
theorem Rep.stp {β β' : Bt} {ok ok' : Nat → Prop} {w w' : World} {v : Value} {x : AV} (h : Rep β ok w v x) (s : Stp β ok w β' ok' w') : Rep β' ok' w' v x := by
  induction h with
  | top v => exact .top v
  | b x => exact .b x
  | i k m => exact .i k m
  | s x => exact .s x
  | agg vs cs hl h ih => exact .agg vs cs hl fun j y hy => ih j y hy
  | tup vs cs hl h ih => exact .tup vs cs hl fun j y hy => ih j y hy
  | nl => exact .nl
  | sl0 t a c => exact .sl0 t a c
  | sl g o c sz t xs cv hc' hg hlt ht' hs hm hr ih =>
    refine .sl g o c sz t xs cv hc' (s.okm g hlt hg) (Nat.lt_of_lt_of_le hlt s.size) ?_ hs (fun i x j hx hj => (s.cell g _ hlt hg).trans (hm i x j hx hj)) ih
    intro k hk
    obtain ⟨p, hp, hpg, hd⟩ := ht' k hk
    exact ⟨p, s.tag k p hp hd (hpg ▸ hg), hpg, hd⟩
  | rf t st m a c p hp ha hc h0 =>
    obtain ⟨p', hp', h1, h2, h3⟩ := s.tok t p hp
    exact .rf t st m a c p' hp' (by rw [h1, h2]; exact ha) hc (by rw [h3]; exact h0)
  | pr e o g b cv hg hlt hm hr ih => exact .pr e o g b cv (s.okm g hlt hg) (Nat.lt_of_lt_of_le hlt s.size) (fun j hj => (s.cell g _ hlt hg).trans (hm j hj)) ih
  | ad t i o p hp =>
    obtain ⟨p', hp', h1, h2, h3⟩ := s.tok t p hp
    rw [← h1, ← h2]
    exact .ad t i o p' hp'
  | fn f caps vs hl h ih => exact .fn f caps vs hl fun j y hy => ih j y hy

theorem Stp.refl (β : Bt) (ok : Nat → Prop) (w : World) : Stp β ok w β ok w :=
  ⟨fun _ p h => ⟨p, h, rfl, rfl, rfl⟩, fun _ _ h _ _ => h, Nat.le_refl _, fun _ _ h => h, fun _ _ _ _ => rfl⟩

end Go.Am
