/-
  A part of the proof that the law FnExactSameAdjustments holds (abstract machine, walks, or the join). No conditions.
-/
import Derived.Test.YtdghdngpeidmnaaAmOp
/-! Contracts of calls. -/
namespace Go.Am
set_option linter.unusedVariables false

theorem Ctx.stp {X : Nat → Prop} {β β' : Bt} {H H' : Heap} {n n' : Nat} {w w' : World} (hs : HSim X β w H n) (h : Ctx ⟨X, β, H, n, w⟩ β' w' H' n') : Stp β (okB X β H) w β' (okB X β' H') w' := by
  have hno : ∀ g, okB X β H g → ¬ (Entry.own ⟨X, β, H, n, w⟩ g) := fun g hg ⟨t, es, p, h1, h2, h3⟩ => hg.2 t es p h1 h2 h3
  refine ⟨h.tok, ?_, h.size, ?_, ?_⟩
  · intro t p hp hd hok
    refine h.keep t p hp ?_
    show H t = none
    cases hh : H t with
    | none => rfl
    | some es => exact absurd rfl (hok.2 t es p hh hp)
  · intro g hlt hg
    refine ⟨hg.1, fun t es p hes hp hpg => ?_⟩
    by_cases ht : t < n
    · have h1 := h.own t es ht hes
      have h2 := h.back t p ht hp
      simp only at h1 h2
      cases hb : β t with
      | none => rw [hb] at h2; cases h2
      | some p0 =>
        cases hh : H t with
        | none => rw [hh] at h1; cases h1
        | some es0 =>
          obtain ⟨p', hp', hg', _⟩ := h.tok t p0 hb
          rw [hp] at hp'; cases hp'
          exact hg.2 t es0 p0 hh hb (by rw [← hg', hpg])
    · exact hno g hg (by rw [← hpg]; exact h.new t p (by simp only; omega) hp (by simp only; omega))
  · intro g o hlt hg
    have := h.old g hlt (hno g hg)
    simp only at this
    simp [World.cell?, this]

theorem Ctx.trans {E : Entry} {β β' : Bt} {H H' : Heap} {n n' : Nat} {w w' : World} (h : Ctx E β w H n) (k : Ctx ⟨E.X, β, H, n, w⟩ β' w' H' n') : Ctx E β' w' H' n' := by
  have hown : ∀ g, g < E.w.heap.size → Entry.own ⟨E.X, β, H, n, w⟩ g → E.own g := by
    intro g hlt ⟨t, es, p, h1, h2, h3⟩
    simp only at h1 h2
    by_cases ht : t < E.n
    · have g1 := h.own t es ht h1
      have g2 := h.back t p ht h2
      cases hb : E.β t with
      | none => rw [hb] at g2; cases g2
      | some p0 =>
        cases hh : E.H t with
        | none => rw [hh] at g1; cases g1
        | some es0 =>
          obtain ⟨p', hp', hg', _⟩ := h.tok t p0 hb
          rw [h2] at hp'; cases hp'
          exact ⟨t, es0, p0, hh, hb, by rw [← hg', h3]⟩
    · rw [← h3]; exact h.new t p (by omega) h2 (by omega)
  refine ⟨Nat.le_trans h.size k.size, k.os.trans h.os, k.tape.trans h.tape, k.output.trans h.output, Nat.le_trans h.le k.le, ?_, ?_, ?_, ?_, ?_, ?_, h.elt⟩
  · intro t p hp
    obtain ⟨p1, g1, g2, g3, g4⟩ := h.tok t p hp
    obtain ⟨p2, k1, k2, k3, k4⟩ := k.tok t p1 g1
    exact ⟨p2, k1, k2.trans g2, k3.trans g3, k4.trans g4⟩
  · intro t p hp hh
    have g1 := h.keep t p hp hh
    refine k.keep t p g1 ?_
    show H t = none
    cases hH : H t with
    | none => rfl
    | some es => have := h.own t es (h.elt t p hp) hH; rw [hh] at this; cases this
  · intro g hlt ho
    have h1 := h.old g hlt ho
    have h2 := k.old g (by have := h.size; simp only; omega) (fun hh => ho (hown g hlt hh))
    exact h2.trans h1
  · intro t es ht hes
    have := k.own t es (by have := h.le; simp only; omega) hes
    simp only at this
    cases hH : H t with
    | none => rw [hH] at this; cases this
    | some es0 => exact h.own t es0 ht hH
  · intro t p ht hp hlt
    by_cases htn : t < n
    · have h1 := k.back t p htn hp
      simp only at h1
      cases hb : β t with
      | none => rw [hb] at h1; cases h1
      | some p0 =>
        obtain ⟨p', hp', hg', _⟩ := k.tok t p0 hb
        rw [hp] at hp'; cases hp'
        rw [hg'] at hlt ⊢
        exact h.new t p0 ht hb hlt
    · exact hown p.g hlt (k.new t p (by simp only; omega) hp (by have := h.size; simp only; omega))
  · intro t p ht hp
    have h1 := k.back t p (by have := h.le; simp only; omega) hp
    simp only at h1
    cases hb : β t with
    | none => rw [hb] at h1; cases h1
    | some p0 => exact h.back t p0 ht hb

/-- A list of machine values stands for a list of values. -/
def LRep (β : Bt) (ok : Nat → Prop) (w : World) (vs : Array Value) (cs : List AV) : Prop :=
  vs.size = cs.length ∧ ∀ (j : Nat) (y : AV), cs[j]? = some y → Rep β ok w ((vs[j]?).getD undef) y

/-- THE CONTRACT OF A CALL: from these arguments and this own heap it returns, and what it returns and leaves meets Q. -/
def MC (P : Program) (f : Nat) (args : List AV) (H : Heap) (n : Nat) (Q : AV → Heap → Nat → Prop) : Prop :=
  (∃ fn, P.funcs[f]? = some fn ∧ fn.body.isSome = true ∧ (fn.name == "runtime.NumGoroutine") = false) ∧
  ∀ (X : Nat → Prop) (β : Bt) (w : World) (cargs : Array Value), HSim X β w H n → LRep β (okB X β H) w cargs args →
    Calls P f cargs w fun e w' => ∃ cv v β' H' n', e = .returned cv ∧ Q v H' n' ∧ HSim X β' w' H' n' ∧ Rep β' (okB X β' H') w' cv v ∧ Ctx ⟨X, β, H, n, w⟩ β' w' H' n'

theorem MC.mono {P : Program} {f : Nat} {args : List AV} {H : Heap} {n : Nat} {Q Q' : AV → Heap → Nat → Prop} (h : MC P f args H n Q) (hq : ∀ v H' n', Q v H' n' → Q' v H' n') : MC P f args H n Q' := by
  refine ⟨h.1, fun X β w cargs hs hr => ?_⟩
  refine Calls.mono (h.2 X β w cargs hs hr) ?_
  rintro e w' ⟨cv, v, β', H', n', h1, h2, h3⟩
  exact ⟨cv, v, β', H', n', h1, hq _ _ _ h2, h3⟩

end Go.Am
