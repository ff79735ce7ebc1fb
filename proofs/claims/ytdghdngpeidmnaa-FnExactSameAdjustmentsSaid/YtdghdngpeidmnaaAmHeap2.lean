/-
  A part of the proof that the law FnExactSameAdjustments holds (abstract machine, walks, or the join). No conditions.
-/
import Derived.Test.YtdghdngpeidmnaaAmHeap
/-! Stores, appends in place, and the freezing of own blocks. -/
namespace Go.Am

section off
variable {X : Nat → Prop} {β : Bt} {w : World} {H : Heap} {n : Nat}

/-- Fewer own blocks: what was no own block is none. -/
theorem okB.less {H' : Heap} (hH : ∀ t es, H' t = some es → (H t).isSome = true) {g : Nat} (h : okB X β H g) : okB X β H' g := by
  refine ⟨h.1, fun t es p hes hp => ?_⟩
  have := hH t es hes
  cases hh : H t with
  | none => rw [hh] at this; cases this
  | some es0 => exact h.2 t es0 p hh hp

theorem Stp.less {H' : Heap} (hH : ∀ t es, H' t = some es → (H t).isSome = true) : Stp β (okB X β H) w β (okB X β H') w :=
  ⟨fun _ p h => ⟨p, h, rfl, rfl, rfl⟩, fun _ _ h _ _ => h, Nat.le_refl _, fun _ _ h => okB.less hH h, fun _ _ _ _ => rfl⟩

/-- Own blocks may be let go: they stay as they are from then on. -/
theorem HSim.less {H' : Heap} (h : HSim X β w H n) (hH : ∀ t es, H' t = some es → H t = some es) : HSim X β w H' n := by
  refine ⟨h.lt, h.inj, h.blk, ?_, h.xlt⟩
  intro t es hes
  obtain ⟨p, hp, hd, hz, hl, hx⟩ := h.dom t es (hH t es hes)
  refine ⟨p, hp, hd, hz, hl, fun i x hi => ⟨(hx i x hi).1, fun j y hj => ?_⟩⟩
  obtain ⟨v, hv, hr⟩ := (hx i x hi).2 j y hj
  exact ⟨v, hv, hr.stp (Stp.less fun t es hes => by rw [hH t es hes]; rfl)⟩
end off

theorem Ctx.less {E : Entry} {β : Bt} {w : World} {H H' : Heap} {n : Nat} (h : Ctx E β w H n) (hH : ∀ t es, H' t = some es → H t = some es) : Ctx E β w H' n :=
  ⟨h.size, h.os, h.tape, h.output, h.le, h.tok, h.keep, h.old, fun t es ht hes => h.own t es ht (hH t es hes), h.new, h.back, h.elt⟩

theorem Sim.less {E : Entry} {β : Bt} {N : Nat} {a : Act} {w : World} {σ : St} {H' : Heap} (h : Sim E β N a w σ) (hH : ∀ t es, H' t = some es → σ.H t = some es) :
    Sim E β N a w ⟨σ.fr, H', σ.n⟩ :=
  ⟨h.hs.less hH, fun d => (h.fs d).stp (Stp.less fun t es hes => by rw [hH t es hes]; rfl), h.sz, h.df, h.cx.less hH⟩

/-- One own block has been written; nothing else has turned. -/
structure Wrote (w w' : World) (g : Nat) (cur : Array Value) (e : TypeId) : Prop where
  get : w'.heap[g]? = some (.cells cur e (0, 0))
  other : ∀ k, k ≠ g → w'.heap[k]? = w.heap[k]?
  size : w'.heap.size = w.heap.size
  os : w'.os = w.os
  tape : w'.tape = w.tape
  output : w'.output = w.output

section wrote
variable {X : Nat → Prop} {β : Bt} {w w' : World} {H : Heap} {n t : Nat} {cur : Array Value} {e : TypeId} {p : Pl} {es es' : Blk}

theorem Wrote.cell {g : Nat} (h : Wrote w w' g cur e) {k o : Nat} (hk : k ≠ g) : w'.cell? ⟨k, o, none⟩ = w.cell? ⟨k, o, none⟩ := by simp [World.cell?, h.other k hk]
theorem Wrote.cell_at {g : Nat} (h : Wrote w w' g cur e) (o : Nat) : w'.cell? ⟨g, o, none⟩ = cur[o]? := by simp [World.cell?, h.get]

theorem okB.upd_iff (hH : H t = some es) (g : Nat) : okB X β (H.upd t es') g ↔ okB X β H g := by
  constructor
  · intro h
    refine ⟨h.1, fun u es2 q h2 hq => ?_⟩
    by_cases e : u = t
    · subst e; exact h.2 u es' q (Heap.upd_self _ _ _) hq
    · exact h.2 u es2 q (by rw [Heap.upd_ne H _ e]; exact h2) hq
  · intro h
    refine ⟨h.1, fun u es2 q h2 hq => ?_⟩
    by_cases e : u = t
    · subst e; exact h.2 u es q hH hq
    · rw [Heap.upd_ne H _ e] at h2; exact h.2 u es2 q h2 hq

theorem Wrote.stp (h : Wrote w w' p.g cur e) (hH : H t = some es) (hp : β t = some p) : Stp β (okB X β H) w β (okB X β (H.upd t es')) w' := by
  refine ⟨fun _ q h => ⟨q, h, rfl, rfl, rfl⟩, fun _ _ h _ _ => h, by rw [h.size]; exact Nat.le_refl _, fun g _ hg => (okB.upd_iff hH g).2 hg, ?_⟩
  intro g o _ hg
  exact h.cell (fun e => hg.2 t es p hH hp e.symm)

theorem HSim.wrote (h : HSim X β w H n) (hw : Wrote w w' p.g cur e) (hH : H t = some es) (hp : β t = some p) (hsz : cur.size = p.cap * p.sz) (hz' : p.sz = es'.1) (hl : es'.2.length ≤ p.cap)
    (hc : CellsRep β (okB X β H) w cur p.sz es'.2) : HSim X β w' (H.upd t es') n := by
  have st : Stp β (okB X β H) w β (okB X β (H.upd t es')) w' := hw.stp hH hp
  obtain ⟨p0, hp0, hd0, _, _, _⟩ := h.dom t es hH
  obtain rfl : p0 = p := by rw [hp] at hp0; cases hp0; rfl
  obtain ⟨hx0, _, _, _, _, hcap⟩ := h.blk t p0 hp
  refine ⟨h.lt, h.inj, ?_, ?_, fun g hx => by rw [hw.size]; exact h.xlt g hx⟩
  · intro u q hq
    by_cases hg : q.g = p0.g
    · obtain ⟨hx, cur0, e0, h1, h2, h3⟩ := h.blk u q hq
      obtain ⟨_, cur1, e1, g1, g2, g3⟩ := h.blk t p0 hp
      rw [hg] at h1
      rw [h1] at g1
      cases g1
      exact ⟨hx, cur, e, by rw [hg]; exact hw.get, by rw [hsz, ← g2, h2], h3⟩
    · obtain ⟨hx, cur0, e0, h1, h2⟩ := h.blk u q hq
      exact ⟨hx, cur0, e0, by rw [hw.other _ hg]; exact h1, h2⟩
  · intro u es2 h2
    by_cases hu : u = t
    · subst hu; rw [Heap.upd_self] at h2; cases h2
      refine ⟨p0, hp, hd0, hz', hl, fun i x hi => ⟨(hc i x hi).1, fun j y hj => ?_⟩⟩
      obtain ⟨v, hv, hr⟩ := (hc i x hi).2 j y hj
      exact ⟨v, by rw [hw.cell_at]; exact hv, hr.stp st⟩
    · rw [Heap.upd_ne H _ hu] at h2
      obtain ⟨q, hq, hd, hz, hl', hx⟩ := h.dom u es2 h2
      have hne : q.g ≠ p0.g := fun hg => hu (h.inj u t q p0 hq hp hg hd hd0)
      refine ⟨q, hq, hd, hz, hl', fun i x hi => ⟨(hx i x hi).1, fun j y hj => ?_⟩⟩
      obtain ⟨v, hv, hr⟩ := (hx i x hi).2 j y hj
      exact ⟨v, by rw [hw.cell hne]; exact hv, hr.stp st⟩

theorem Ctx.wrote {E : Entry} (h : Ctx E β w H n) (hw : Wrote w w' p.g cur e) (hH : H t = some es) (hp : β t = some p) : Ctx E β w' (H.upd t es') n := by
  refine ⟨by rw [hw.size]; exact h.size, hw.os.trans h.os, hw.tape.trans h.tape, hw.output.trans h.output, h.le, h.tok, h.keep, ?_, ?_, h.new, h.back, h.elt⟩
  · intro g hlt ho
    have hne : g ≠ p.g := by
      intro hg
      subst hg
      by_cases ht : t < E.n
      · have h1 := h.own t es ht hH
        have h2 := h.back t p ht hp
        cases hb : E.β t with
        | none => rw [hb] at h2; cases h2
        | some p0 =>
          cases hh : E.H t with
          | none => rw [hh] at h1; cases h1
          | some es0 =>
            obtain ⟨p', hp', hg', _⟩ := h.tok t p0 hb
            rw [hp] at hp'; cases hp'
            exact ho ⟨t, es0, p0, hh, hb, hg'.symm⟩
      · exact ho (h.new t p (by omega) hp hlt)
    rw [hw.other g hne]; exact h.old g hlt ho
  · intro u es2 hu h2
    by_cases e : u = t
    · subst e; exact h.own u es hu hH
    · rw [Heap.upd_ne H _ e] at h2; exact h.own u es2 hu h2
end wrote

section handon
variable {X : Nat → Prop} {β : Bt} {w w' : World} {H : Heap} {n t tok : Nat} {cur : Array Value} {e : TypeId} {p : Pl} {es es' : Blk}

/-- The tokens behind an append in place: the old one is dead, the new one holds the block. -/
def Bt.hand (β : Bt) (t tok : Nat) (p : Pl) : Bt := (β.upd t { p with dead := true }).upd tok p

theorem handH (hne : tok ≠ t) (u : Nat) (es2 : Blk) (h2 : ((H.off t).upd tok es') u = some es2) : (u = tok ∧ es2 = es') ∨ (u ≠ tok ∧ u ≠ t ∧ H u = some es2) := by
  by_cases e : u = tok
  · subst e; rw [Heap.upd_self] at h2; cases h2; exact .inl ⟨rfl, rfl⟩
  · rw [Heap.upd_ne _ _ e] at h2
    by_cases e' : u = t
    · subst e'; rw [Heap.off_self] at h2; cases h2
    · rw [Heap.off_ne _ e'] at h2; exact .inr ⟨e, e', h2⟩

theorem handB (hne : tok ≠ t) (u : Nat) (q : Pl) (hq : (β.hand t tok p) u = some q) : (u = tok ∧ q = p) ∨ (u = t ∧ q = { p with dead := true }) ∨ (u ≠ tok ∧ u ≠ t ∧ β u = some q) := by
  unfold Bt.hand at hq
  by_cases e : u = tok
  · subst e; rw [Bt.upd_self] at hq; cases hq; exact .inl ⟨rfl, rfl⟩
  · rw [Bt.upd_ne _ _ e] at hq
    by_cases e' : u = t
    · subst e'; rw [Bt.upd_self] at hq; cases hq; exact .inr (.inl ⟨rfl, rfl⟩)
    · rw [Bt.upd_ne _ _ e'] at hq; exact .inr (.inr ⟨e, e', hq⟩)

theorem hand_at (hne : tok ≠ t) : (β.hand t tok p) tok = some p ∧ (β.hand t tok p) t = some { p with dead := true } := by
  unfold Bt.hand
  exact ⟨Bt.upd_self _ _ _, by rw [Bt.upd_ne _ _ hne.symm, Bt.upd_self]⟩
theorem hand_ne {u : Nat} (h1 : u ≠ tok) (h2 : u ≠ t) : (β.hand t tok p) u = β u := by
  unfold Bt.hand; rw [Bt.upd_ne _ _ h1, Bt.upd_ne _ _ h2]

theorem Wrote.hand_stp (hw : Wrote w w' p.g cur e) (hH : H t = some es) (hp : β t = some p) (hfree : β tok = none) :
    Stp β (okB X β H) w (β.hand t tok p) (okB X (β.hand t tok p) ((H.off t).upd tok es')) w' := by
  have hne : tok ≠ t := fun e => by rw [e, hp] at hfree; cases hfree
  refine ⟨?_, ?_, by rw [hw.size]; exact Nat.le_refl _, ?_, ?_⟩
  · intro u q hq
    by_cases e : u = t
    · subst e; rw [hp] at hq; cases hq; exact ⟨_, (hand_at hne).2, rfl, rfl, rfl⟩
    · have hu : u ≠ tok := fun e => by rw [e, hfree] at hq; cases hq
      exact ⟨q, by rw [hand_ne hu e]; exact hq, rfl, rfl, rfl⟩
  · intro u q hq _ hok
    have e : u ≠ t := fun e => by subst e; rw [hp] at hq; cases hq; exact hok.2 u es p hH hp rfl
    have hu : u ≠ tok := fun e => by rw [e, hfree] at hq; cases hq
    rw [hand_ne hu e]; exact hq
  · intro g _ hg
    refine ⟨hg.1, fun u es2 q h2 hq => ?_⟩
    rcases handH hne u es2 h2 with ⟨rfl, rfl⟩ | ⟨h1, h3, h4⟩
    · rw [(hand_at hne).1] at hq; cases hq; exact hg.2 t es p hH hp
    · rw [hand_ne h1 h3] at hq; exact hg.2 u es2 q h4 hq
  · intro g o _ hg
    exact hw.cell (fun e => hg.2 t es p hH hp e.symm)

theorem HSim.handon (h : HSim X β w H n) (hw : Wrote w w' p.g cur e) (hH : H t = some es) (hp : β t = some p) (hfree : β tok = none) (htok : tok < n) (hsz : cur.size = p.cap * p.sz)
    (hz' : p.sz = es'.1) (hl : es'.2.length ≤ p.cap) (hc : CellsRep β (okB X β H) w cur p.sz es'.2) : HSim X (β.hand t tok p) w' ((H.off t).upd tok es') n := by
  have hne : tok ≠ t := fun e => by rw [e, hp] at hfree; cases hfree
  have st : Stp β (okB X β H) w (β.hand t tok p) (okB X (β.hand t tok p) ((H.off t).upd tok es')) w' := hw.hand_stp hH hp hfree
  obtain ⟨p0, hp0, hd0, _, _, _⟩ := h.dom t es hH
  obtain rfl : p0 = p := by rw [hp] at hp0; cases hp0; rfl
  obtain ⟨hx0, cur1, e1, g1, g2, hcap⟩ := h.blk t p0 hp
  refine ⟨?_, ?_, ?_, ?_, fun g hx => by rw [hw.size]; exact h.xlt g hx⟩
  · intro u q hq
    rcases handB hne u q hq with ⟨rfl, _⟩ | ⟨rfl, _⟩ | ⟨_, _, hq'⟩
    · exact htok
    · exact h.lt u p0 hp
    · exact h.lt u q hq'
  · intro u u' q q' hq hq' hgg hd hd'
    rcases handB hne u q hq with ⟨rfl, rfl⟩ | ⟨rfl, rfl⟩ | ⟨a1, a2, hu⟩
    · rcases handB hne u' q' hq' with ⟨rfl, rfl⟩ | ⟨rfl, rfl⟩ | ⟨b1, b2, hu'⟩
      · rfl
      · cases hd'
      · exact absurd (h.inj u' t q' q hu' hp hgg.symm hd' hd) b2
    · cases hd
    · rcases handB hne u' q' hq' with ⟨rfl, rfl⟩ | ⟨rfl, rfl⟩ | ⟨b1, b2, hu'⟩
      · exact absurd (h.inj u t q q' hu hp hgg hd hd') a2
      · cases hd'
      · exact h.inj u u' q q' hu hu' hgg hd hd'
  · have key : ∀ (u : Nat) (q : Pl), β u = some q → ¬ X q.g ∧ ∃ cur e, w'.heap[q.g]? = some (.cells cur e (0, 0)) ∧ cur.size = q.cap * q.sz ∧ q.cap ≤ maxLen := by
      intro u q hq
      by_cases hg : q.g = p0.g
      · obtain ⟨hx, cur0, e0, h1, h2, h3⟩ := h.blk u q hq
        rw [hg] at h1
        rw [h1] at g1
        cases g1
        exact ⟨hx, cur, e, by rw [hg]; exact hw.get, by rw [hsz, ← g2, h2], h3⟩
      · obtain ⟨hx, cur0, e0, h1, h2⟩ := h.blk u q hq
        exact ⟨hx, cur0, e0, by rw [hw.other _ hg]; exact h1, h2⟩
    intro u q hq
    rcases handB hne u q hq with ⟨rfl, rfl⟩ | ⟨rfl, rfl⟩ | ⟨_, _, hq'⟩
    · exact key t q hp
    · exact key u p0 hp
    · exact key u q hq'
  · intro u es2 h2
    rcases handH hne u es2 h2 with ⟨rfl, rfl⟩ | ⟨h1, h3, h4⟩
    · refine ⟨p0, (hand_at hne).1, hd0, hz', hl, fun i x hi => ⟨(hc i x hi).1, fun j y hj => ?_⟩⟩
      obtain ⟨v, hv, hr⟩ := (hc i x hi).2 j y hj
      exact ⟨v, by rw [hw.cell_at]; exact hv, hr.stp st⟩
    · obtain ⟨q, hq, hd, hz, hl', hx⟩ := h.dom u es2 h4
      have hne' : q.g ≠ p0.g := fun hg => h3 (h.inj u t q p0 hq hp hg hd hd0)
      refine ⟨q, by rw [hand_ne h1 h3]; exact hq, hd, hz, hl', fun i x hi => ⟨(hx i x hi).1, fun j y hj => ?_⟩⟩
      obtain ⟨v, hv, hr⟩ := (hx i x hi).2 j y hj
      exact ⟨v, by rw [hw.cell hne']; exact hv, hr.stp st⟩

theorem Ctx.handon {E : Entry} (h : Ctx E β w H n) (hw : Wrote w w' p.g cur e) (hH : H t = some es) (hp : β t = some p) (hfree : β tok = none) (htok : E.n ≤ tok) :
    Ctx E (β.hand t tok p) w' ((H.off t).upd tok es') n := by
  have hne : tok ≠ t := fun e => by rw [e, hp] at hfree; cases hfree
  have hown : p.g < E.w.heap.size → E.own p.g := by
    intro hlt
    by_cases ht : t < E.n
    · have h1 := h.own t es ht hH
      have h2 := h.back t p ht hp
      cases hb : E.β t with
      | none => rw [hb] at h2; cases h2
      | some p0 =>
        cases hh : E.H t with
        | none => rw [hh] at h1; cases h1
        | some es0 =>
          obtain ⟨p', hp', hg', _⟩ := h.tok t p0 hb
          rw [hp] at hp'; cases hp'
          exact ⟨t, es0, p0, hh, hb, hg'.symm⟩
    · exact h.new t p (by omega) hp hlt
  refine ⟨by rw [hw.size]; exact h.size, hw.os.trans h.os, hw.tape.trans h.tape, hw.output.trans h.output, h.le, ?_, ?_, ?_, ?_, ?_, ?_, h.elt⟩
  · intro u q hq
    obtain ⟨p', hp', h1, h2, h3⟩ := h.tok u q hq
    by_cases e' : u = t
    · subst e'; rw [hp] at hp'; cases hp'; exact ⟨_, (hand_at hne).2, h1, h2, h3⟩
    · have hu : u ≠ tok := fun e => by rw [e, hfree] at hp'; cases hp'
      exact ⟨p', by rw [hand_ne hu e']; exact hp', h1, h2, h3⟩
  · intro u q hq hh
    have hk := h.keep u q hq hh
    have e' : u ≠ t := fun e => by
      subst e
      have := h.own u es (h.elt u q hq) hH
      rw [hh] at this; cases this
    have hu : u ≠ tok := fun e => by rw [e, hfree] at hk; cases hk
    rw [hand_ne hu e']; exact hk
  · intro g hlt ho
    have hne : g ≠ p.g := fun hg => by subst hg; exact ho (hown hlt)
    rw [hw.other g hne]; exact h.old g hlt ho
  · intro u es2 hu h2
    rcases handH hne u es2 h2 with ⟨rfl, _⟩ | ⟨_, _, h4⟩
    · omega
    · exact h.own u es2 hu h4
  · intro u q hu hq hlt
    rcases handB hne u q hq with ⟨rfl, rfl⟩ | ⟨rfl, rfl⟩ | ⟨_, _, hq'⟩
    · exact hown hlt
    · exact hown hlt
    · exact h.new u q hu hq' hlt
  · intro u q hu hq
    rcases handB hne u q hq with ⟨rfl, _⟩ | ⟨rfl, _⟩ | ⟨_, _, hq'⟩
    · omega
    · exact h.back u p hu hp
    · exact h.back u q hu hq'
end handon

end Go.Am
