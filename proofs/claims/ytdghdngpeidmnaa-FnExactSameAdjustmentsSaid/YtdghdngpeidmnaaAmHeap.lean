/-
  A part of the proof that the law FnExactSameAdjustments holds (abstract machine, walks, or the join). No conditions.
-/
import Derived.Test.YtdghdngpeidmnaaAmRep
/-! How the relation of the heaps is carried over what an operation does to memory. -/
namespace Go.Am

/-- What a call began with. -/
structure Entry where
  X : Nat → Prop
  β : Bt
  H : Heap
  n : Nat
  w : World

def Entry.own (E : Entry) (g : Nat) : Prop := ∃ t es p, E.H t = some es ∧ E.β t = some p ∧ p.g = g

/-- What has become of the world since the call began. -/
structure Ctx (E : Entry) (β : Bt) (w : World) (H : Heap) (n : Nat) : Prop where
  size : E.w.heap.size ≤ w.heap.size
  os : w.os = E.w.os
  tape : w.tape = E.w.tape
  output : w.output = E.w.output
  le : E.n ≤ n
  tok : ∀ t p, E.β t = some p → ∃ p', β t = some p' ∧ p'.g = p.g ∧ p'.sz = p.sz ∧ p'.cap = p.cap
  keep : ∀ t p, E.β t = some p → E.H t = none → β t = some p
  old : ∀ g, g < E.w.heap.size → ¬ E.own g → w.heap[g]? = E.w.heap[g]?
  own : ∀ t es, t < E.n → H t = some es → (E.H t).isSome = true
  new : ∀ t p, E.n ≤ t → β t = some p → p.g < E.w.heap.size → E.own p.g
  back : ∀ t p, t < E.n → β t = some p → (E.β t).isSome = true
  elt : ∀ t p, E.β t = some p → t < E.n

/-- The relation of the states. -/
structure Sim (E : Entry) (β : Bt) (N : Nat) (a : Act) (w : World) (σ : St) : Prop where
  hs : HSim E.X β w σ.H σ.n
  fs : ∀ d, Rep β (okB E.X β σ.H) w (a.tmps.getD d undef) (σ.fr d)
  sz : a.tmps.size = N
  df : a.defers = []
  cx : Ctx E β w σ.H σ.n

def Bt.upd (β : Bt) (t : Nat) (p : Pl) : Bt := fun u => if u = t then some p else β u
theorem Bt.upd_self (β : Bt) (t : Nat) (p : Pl) : β.upd t p t = some p := by simp [Bt.upd]
theorem Bt.upd_ne (β : Bt) {t u : Nat} (p : Pl) (h : u ≠ t) : β.upd t p u = β u := by simp [Bt.upd, h]
theorem Heap.upd_self (H : Heap) (t : Nat) (es : Blk) : H.upd t es t = some es := by simp [Heap.upd]
theorem Heap.upd_ne (H : Heap) {t u : Nat} (es : Blk) (h : u ≠ t) : H.upd t es u = H u := by simp [Heap.upd, h]
theorem Heap.off_self (H : Heap) (t : Nat) : H.off t t = none := by simp [Heap.off]
theorem Heap.off_ne (H : Heap) {t u : Nat} (h : u ≠ t) : H.off t u = H u := by simp [Heap.off, h]

theorem getD_put (a : Act) (d : Option Nat) (v : Value) (u : Nat) (hd : ∀ k, d = some k → k < a.tmps.size) :
    (a.put d v).tmps.getD u undef = if d = some u then v else a.tmps.getD u undef := by
  cases d with
  | none => simp [Act.put]
  | some k =>
    have hk := hd k rfl
    by_cases e : k = u
    · subst e; simp [Act.put, hk]
    · simp [Act.put, Array.getElem?_setIfInBounds_ne e, e]

theorem Fr.put_app (fr : Fr) (d : Option Nat) (x : AV) (u : Nat) : fr.put d x u = if d = some u then x else fr u := by
  cases d with
  | none => simp [Fr.put]
  | some k => by_cases e : u = k <;> simp [Fr.put, Fr.set, e]; intro h; exact absurd h.symm e

/-- The frame behind a step that yields a value. -/
theorem Sim.put {E : Entry} {β β' : Bt} {N : Nat} {a : Act} {w w' : World} {σ : St} {H' : Heap} {n' : Nat} {d : Option Nat} {v : Value} {x : AV}
    (h : Sim E β N a w σ) (hs : HSim E.X β' w' H' n') (hst : Stp β (okB E.X β σ.H) w β' (okB E.X β' H') w') (hcx : Ctx E β' w' H' n')
    (hd : ∀ k, d = some k → k < N) (hv : Rep β' (okB E.X β' H') w' v x) : Sim E β' N (a.put d v) w' ⟨σ.fr.put d x, H', n'⟩ := by
  refine ⟨hs, fun u => ?_, ?_, ?_, hcx⟩
  · show Rep β' (okB E.X β' H') w' ((a.put d v).tmps.getD u undef) (σ.fr.put d x u)
    rw [getD_put a d v u (by rw [h.sz]; exact hd), Fr.put_app]
    split
    · exact hv
    · exact (h.fs u).stp hst
  · cases d <;> simp [Act.put, h.sz]
  · cases d <;> simp [Act.put, h.df]

/-- A world that differs by draws alone. -/
structure Same (w w' : World) : Prop where
  heap : w'.heap = w.heap
  os : w'.os = w.os
  tape : w'.tape = w.tape
  output : w'.output = w.output

theorem Same.refl (w : World) : Same w w := ⟨rfl, rfl, rfl, rfl⟩
theorem Same.drew (w : World) : Same w { w with drawn := w.drawn + 1 } := ⟨rfl, rfl, rfl, rfl⟩
theorem Same.cell {w w' : World} (h : Same w w') (a : Addr) : w'.cell? a = w.cell? a := by simp [World.cell?, h.heap]
theorem Same.stp {w w' : World} (h : Same w w') (β : Bt) (ok : Nat → Prop) : Stp β ok w β ok w' :=
  ⟨fun _ p h => ⟨p, h, rfl, rfl, rfl⟩, fun _ _ h _ _ => h, by rw [h.heap]; exact Nat.le_refl _, fun _ _ h => h, fun _ _ _ _ => h.cell _⟩

/-- The heap's relation, carried over a step that keeps H and the own blocks' cells. -/
theorem HSim.same {X : Nat → Prop} {β : Bt} {w w' : World} {H : Heap} {n : Nat} (h : HSim X β w H n) (s : Same w w') : HSim X β w' H n := by
  refine ⟨h.lt, h.inj, ?_, ?_, ?_⟩
  · intro t p hp; rw [s.heap]; exact h.blk t p hp
  · intro t es hes
    obtain ⟨p, hp, hd, hz, hl, hx⟩ := h.dom t es hes
    refine ⟨p, hp, hd, hz, hl, fun i x hi => ⟨(hx i x hi).1, fun j y hj => ?_⟩⟩
    obtain ⟨v, hv, hr⟩ := (hx i x hi).2 j y hj
    exact ⟨v, by rw [s.cell]; exact hv, hr.stp (s.stp β (okB X β H))⟩
  · intro g hg; rw [s.heap]; exact h.xlt g hg

theorem Ctx.same {E : Entry} {β : Bt} {w w' : World} {H : Heap} {n : Nat} (h : Ctx E β w H n) (s : Same w w') : Ctx E β w' H n :=
  ⟨by rw [s.heap]; exact h.size, s.os.trans h.os, s.tape.trans h.tape, s.output.trans h.output, h.le, h.tok, h.keep, fun g hg ho => by rw [s.heap]; exact h.old g hg ho, h.own, h.new, h.back, h.elt⟩

theorem Sim.same {E : Entry} {β : Bt} {N : Nat} {a : Act} {w w' : World} {σ : St} (h : Sim E β N a w σ) (s : Same w w') : Sim E β N a w' σ :=
  ⟨h.hs.same s, fun d => (h.fs d).stp (s.stp β (okB E.X β σ.H)), h.sz, h.df, h.cx.same s⟩

/-- The counter of tokens may be raised. -/
theorem Sim.raise {E : Entry} {β : Bt} {N : Nat} {a : Act} {w : World} {σ : St} (h : Sim E β N a w σ) {n' : Nat} (hn : σ.n ≤ n') : Sim E β N a w ⟨σ.fr, σ.H, n'⟩ :=
  ⟨⟨fun t p hp => Nat.lt_of_lt_of_le (h.hs.lt t p hp) hn, h.hs.inj, h.hs.blk, h.hs.dom, h.hs.xlt⟩, h.fs, h.sz, h.df,
    ⟨h.cx.size, h.cx.os, h.cx.tape, h.cx.output, Nat.le_trans h.cx.le hn, h.cx.tok, h.cx.keep, h.cx.old, h.cx.own, h.cx.new, h.cx.back, h.cx.elt⟩⟩

/-- A new block. -/
structure Grew (w w' : World) (c : Array Value) (e : TypeId) : Prop where
  heap : w'.heap = w.heap.push (.cells c e (0, 0))
  os : w'.os = w.os
  tape : w'.tape = w.tape
  output : w'.output = w.output

section
variable {w w' : World} {c : Array Value} {e : TypeId}
theorem Grew.get_lt (h : Grew w w' c e) {g : Nat} (hg : g < w.heap.size) : w'.heap[g]? = w.heap[g]? := by
  rw [h.heap, Array.getElem?_push, if_neg (by omega)]
theorem Grew.get_new (h : Grew w w' c e) : w'.heap[w.heap.size]? = some (.cells c e (0, 0)) := by rw [h.heap]; simp
theorem Grew.size (h : Grew w w' c e) : w'.heap.size = w.heap.size + 1 := by rw [h.heap]; simp
theorem Grew.cell_lt (h : Grew w w' c e) {g o : Nat} (hg : g < w.heap.size) : w'.cell? ⟨g, o, none⟩ = w.cell? ⟨g, o, none⟩ := by simp [World.cell?, h.get_lt hg]
theorem Grew.cell_new (h : Grew w w' c e) (o : Nat) : w'.cell? ⟨w.heap.size, o, none⟩ = c[o]? := by simp [World.cell?, h.get_new]
end

theorem HSim.plt {X : Nat → Prop} {β : Bt} {w : World} {H : Heap} {n : Nat} (h : HSim X β w H n) {t : Nat} {p : Pl} (hp : β t = some p) : p.g < w.heap.size := by
  obtain ⟨_, cur, e, hc, _⟩ := h.blk t p hp
  exact (Array.getElem?_eq_some_iff.1 hc).1

theorem HSim.free {X : Nat → Prop} {β : Bt} {w : World} {H : Heap} {n : Nat} (h : HSim X β w H n) {t : Nat} (hf : β t = none) : H t = none := by
  cases hh : H t with
  | none => rfl
  | some es => obtain ⟨p, hp, _⟩ := h.dom t es hh; rw [hf] at hp; cases hp

/-- What the new block's cells must stand for. -/
def CellsRep (β : Bt) (ok : Nat → Prop) (w : World) (c : Array Value) (sz : Nat) (es : List AV) : Prop :=
  ∀ (i : Nat) (x : AV), es[i]? = some x → x.cells.length = sz ∧ ∀ (j : Nat) (y : AV), x.cells[j]? = some y → ∃ v, c[i * sz + j]? = some v ∧ Rep β ok w v y

section grew
variable {X : Nat → Prop} {β : Bt} {w w' : World} {H : Heap} {n tok : Nat} {c : Array Value} {e : TypeId}

theorem HSim.grew_stp (h : HSim X β w H n) (hg : Grew w w' c e) (p : Pl) (es : Blk) (hpg : p.g = w.heap.size) (hfree : β tok = none) :
    Stp β (okB X β H) w (β.upd tok p) (okB X (β.upd tok p) (H.upd tok es)) w' := by
  have hne : ∀ t q, β t = some q → t ≠ tok := fun t q hq e => by rw [e, hfree] at hq; cases hq
  refine ⟨fun t q hq => ⟨q, by rw [Bt.upd_ne β p (hne t q hq)]; exact hq, rfl, rfl, rfl⟩, fun t q hq _ _ => by rw [Bt.upd_ne β p (hne t q hq)]; exact hq, by rw [hg.size]; omega, ?_, fun g o hlt _ => hg.cell_lt hlt⟩
  intro g hlt ⟨hx, ho⟩
  refine ⟨hx, fun t es' q hes hq => ?_⟩
  by_cases e : t = tok
  · subst e; rw [Bt.upd_self] at hq; cases hq; omega
  · rw [Bt.upd_ne β p e] at hq; rw [Heap.upd_ne H es e] at hes; exact ho t es' q hes hq

/-- A new own block. -/
theorem HSim.grew (h : HSim X β w H n) (hg : Grew w w' c e) (sz cap : Nat) (es : List AV) (hfree : β tok = none) (htok : tok < n)
    (hl : es.length ≤ cap) (hcs : c.size = cap * sz) (hm : cap ≤ maxLen) (hc : CellsRep β (okB X β H) w c sz es) :
    HSim X (β.upd tok ⟨w.heap.size, sz, cap, false⟩) w' (H.upd tok (sz, es)) n := by
  have st := h.grew_stp (tok := tok) hg ⟨w.heap.size, sz, cap, false⟩ (sz, es) rfl hfree
  have hxx : ¬ X w.heap.size := fun hx => by have := h.xlt _ hx; omega
  refine ⟨?_, ?_, ?_, ?_, fun g hx => by rw [hg.size]; have := h.xlt g hx; omega⟩
  · intro t p hp
    by_cases e : t = tok
    · rw [e]; exact htok
    · rw [Bt.upd_ne β _ e] at hp; exact h.lt t p hp
  · intro t t' p p' hp hp' hgg hd hd'
    by_cases e : t = tok <;> by_cases e' : t' = tok
    · rw [e, e']
    · subst e; rw [Bt.upd_self] at hp; cases hp; rw [Bt.upd_ne β _ e'] at hp'; have := h.plt hp'; simp at hgg; omega
    · subst e'; rw [Bt.upd_self] at hp'; cases hp'; rw [Bt.upd_ne β _ e] at hp; have := h.plt hp; simp at hgg; omega
    · rw [Bt.upd_ne β _ e] at hp; rw [Bt.upd_ne β _ e'] at hp'; exact h.inj t t' p p' hp hp' hgg hd hd'
  · intro t p hp
    by_cases e' : t = tok
    · subst e'; rw [Bt.upd_self] at hp; cases hp; exact ⟨hxx, c, e, hg.get_new, hcs, hm⟩
    · rw [Bt.upd_ne β _ e'] at hp
      obtain ⟨hx, cur, e2, h1, h2⟩ := h.blk t p hp
      exact ⟨hx, cur, e2, by rw [hg.get_lt (h.plt hp)]; exact h1, h2⟩
  · intro t es' hes
    by_cases e' : t = tok
    · subst e'; rw [Heap.upd_self] at hes; cases hes
      refine ⟨_, Bt.upd_self _ _ _, rfl, rfl, hl, fun i x hi => ⟨(hc i x hi).1, fun j y hj => ?_⟩⟩
      obtain ⟨v, hv, hr⟩ := (hc i x hi).2 j y hj
      exact ⟨v, by rw [hg.cell_new]; exact hv, hr.stp st⟩
    · rw [Heap.upd_ne H _ e'] at hes
      obtain ⟨p, hp, hd, hz, hl', hx⟩ := h.dom t es' hes
      refine ⟨p, by rw [Bt.upd_ne β _ e']; exact hp, hd, hz, hl', fun i x hi => ⟨(hx i x hi).1, fun j y hj => ?_⟩⟩
      obtain ⟨v, hv, hr⟩ := (hx i x hi).2 j y hj
      exact ⟨v, by rw [hg.cell_lt (h.plt hp)]; exact hv, hr.stp st⟩

end grew

/-- What the call began with, behind a new block. -/
theorem Ctx.grew {E : Entry} {β : Bt} {w w' : World} {H : Heap} {n tok : Nat} {c : Array Value} {e : TypeId} (h : Ctx E β w H n) (hg : Grew w w' c e) (p : Pl) (es : Blk)
    (hpg : p.g = w.heap.size) (hfree : β tok = none) (htok : E.n ≤ tok) : Ctx E (β.upd tok p) w' (H.upd tok es) n := by
  have hne : ∀ t q, β t = some q → t ≠ tok := fun t q hq e => by rw [e, hfree] at hq; cases hq
  refine ⟨by rw [hg.size]; have := h.size; omega, hg.os.trans h.os, hg.tape.trans h.tape, hg.output.trans h.output, h.le, ?_, ?_, ?_, ?_, ?_, ?_, h.elt⟩
  · intro t q hq
    obtain ⟨p', hp', h'⟩ := h.tok t q hq
    exact ⟨p', by rw [Bt.upd_ne β p (hne t p' hp')]; exact hp', h'⟩
  · intro t q hq hh
    have := h.keep t q hq hh
    rw [Bt.upd_ne β p (hne t q this)]; exact this
  · intro g hlt ho
    rw [hg.get_lt (by have := h.size; omega)]; exact h.old g hlt ho
  · intro t es' ht hes
    rw [Heap.upd_ne H es (by omega)] at hes; exact h.own t es' ht hes
  · intro t q ht hq hlt
    by_cases e' : t = tok
    · subst e'; rw [Bt.upd_self] at hq; cases hq; have := h.size; omega
    · rw [Bt.upd_ne β p e'] at hq; exact h.new t q ht hq hlt
  · intro t q ht hq
    rw [Bt.upd_ne β p (by omega)] at hq; exact h.back t q ht hq

end Go.Am
