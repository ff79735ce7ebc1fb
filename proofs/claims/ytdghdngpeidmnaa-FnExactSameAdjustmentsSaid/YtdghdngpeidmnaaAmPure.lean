/-
  A part of the proof that the law FnExactSameAdjustments holds (abstract machine, walks, or the join). No conditions.
-/
import Derived.Test.YtdghdngpeidmnaaAmView
/-! Calls that get data and give data: they leave every own block alone. -/
namespace Go.Am
set_option linter.unusedVariables false

/-- Arguments seen as data. -/
def Vws (H : Heap) (S : Nat → Prop) (args args' : List AV) : Prop :=
  args.length = args'.length ∧ ∀ (j : Nat) (x y : AV), args[j]? = some x → args'[j]? = some y → Vw H S (fun _ _ => False) True x y

def noHeap : Heap := fun _ => none

/-- A contract from data to data. `R n` is the result, its own slices tagged n, n + 1, .., n + c - 1; U: other slices may be no memory of the call's own. -/
def PC (P : Program) (f : Nat) (args : List AV) (R : Nat → AV) (c : Nat) (U : Prop) : Prop :=
  MC P f args noHeap 0 fun v H' n' => ∃ ρ : Nat → Nat, (∀ k k', k < c → k' < c → ρ k = ρ k' → k = k') ∧ ∀ n, Vw H' (fun _ => True) (fun k t => ∃ j, j < c ∧ k = n + j ∧ ρ j = t) U v (R n)

open Classical in
/-- The tokens behind a call. -/
noncomputable def Bt.after (β β' : Bt) (n c : Nat) (ρ : Nat → Nat) : Bt := fun t =>
  if t < n then β t else if t < n + c then match β' (ρ (t - n)) with
    | some p => if p.dead = false then some p else none
    | none => none
  else none

theorem Bt.after_lt {β β' : Bt} {n c : Nat} {ρ : Nat → Nat} {t : Nat} (h : t < n) : Bt.after β β' n c ρ t = β t := by simp [Bt.after, h]
theorem Bt.after_new {β β' : Bt} {n c : Nat} {ρ : Nat → Nat} {t : Nat} {p : Pl} (h : n ≤ t) (hp : Bt.after β β' n c ρ t = some p) : t < n + c ∧ β' (ρ (t - n)) = some p ∧ p.dead = false := by
  unfold Bt.after at hp
  rw [if_neg (by omega)] at hp
  split at hp
  · rename_i hlt
    split at hp
    · rename_i q hq
      split at hp
      · rename_i hd; cases hp; exact ⟨hlt, hq, hd⟩
      · cases hp
    · cases hp
  · cases hp
theorem Bt.after_of {β β' : Bt} {n c : Nat} {ρ : Nat → Nat} {j : Nat} {p : Pl} (hj : j < c) (hp : β' (ρ j) = some p) (hd : p.dead = false) : Bt.after β β' n c ρ (n + j) = some p := by
  unfold Bt.after
  rw [if_neg (by omega), if_pos (by omega), Nat.add_sub_cancel_left, hp]
  simp [hd]

/-- A call on data leaves the own heap as it is. -/
theorem pcall {P : Program} {f : Nat} {args args' : List AV} {R : Nat → AV} {c : Nat} {U : Prop} {H : Heap} {n : Nat} {S : Nat → Prop} (hm : PC P f args' R c U) (hv : Vws H S args args') (hU : U → ∀ t, ¬ S t) :
    MC P f args H n fun v H2 n2 => v = R n ∧ H2 = H ∧ n2 = n + c := by
  refine ⟨hm.1, fun X β w cargs hs hr => ?_⟩
  -- the own blocks that are not looked into are walled off
  let Xc : Nat → Prop := fun g => X g ∨ ∃ t b p, H t = some b ∧ β t = some p ∧ p.g = g ∧ ¬ S t
  have hxlt : ∀ g, Xc g → g < w.heap.size := by
    rintro g (h | ⟨t, b, p, _, hp, rfl, _⟩)
    · exact hs.xlt g h
    · exact hs.plt hp
  have hs0 : HSim Xc (fun _ => none) w noHeap 0 := ⟨(fun t p h => by cases h), (fun t t' p p' h => by cases h), (fun t p h => by cases h), (fun t es h => by cases h), hxlt⟩
  have hno : ∀ g, okB X β H g → okB Xc (fun _ => none) noHeap g := by
    intro g hg
    refine ⟨?_, fun t es p h => by cases h⟩
    rintro (h | ⟨t, b, p, hH, hp, hpg, _⟩)
    · exact hg.1 h
    · exact hg.2 t b p hH hp hpg
  have hSt : ∀ t b p, S t → H t = some b → β t = some p → okB Xc (fun _ => none) noHeap p.g := by
    intro t b p hSt hH hp
    refine ⟨?_, fun t es p h => by cases h⟩
    rintro (h | ⟨t', b', p', hH', hp', hpg, hS'⟩)
    · exact (hs.blk t p hp).1 h
    · obtain ⟨q, hq, hd, _⟩ := hs.dom t b hH
      obtain ⟨q', hq', hd', _⟩ := hs.dom t' b' hH'
      rw [hp] at hq; cases hq
      rw [hp'] at hq'; cases hq'
      exact hS' (hs.inj t t' p p' hp hp' hpg.symm hd hd' ▸ hSt)
  have hr0 : LRep (fun _ => none) (okB Xc (fun _ => none) noHeap) w cargs args' := by
    refine ⟨by rw [hr.1]; exact hv.1, fun j y hy => ?_⟩
    have hj : j < args.length := by rw [hv.1]; exact (List.getElem?_eq_some_iff.1 hy).1
    exact (hv.2 j _ y (List.getElem?_eq_getElem hj) hy).rep hs (fun _ => hno) hSt (fun k t p h => h.elim) (hr.2 j _ (List.getElem?_eq_getElem hj))
  refine Calls.mono (hm.2 Xc (fun _ => none) w cargs hs0 hr0) ?_
  rintro e w' ⟨cv, v, β', H', n', he, ⟨ρ, hρ, hvw⟩, hs', hrep, hcx⟩
  have hnoown : ∀ g, ¬ Entry.own ⟨Xc, fun _ => none, noHeap, 0, w⟩ g := by rintro g ⟨t, es, p, h, _⟩; cases h
  have hold : ∀ g, g < w.heap.size → w'.heap[g]? = w.heap[g]? := fun g hg => hcx.old g hg (hnoown g)
  have hnew : ∀ t p, β' t = some p → w.heap.size ≤ p.g := by
    intro t p hp
    rcases Nat.lt_or_ge p.g w.heap.size with h | h
    · exact absurd (hcx.new t p (Nat.zero_le _) hp h) (hnoown _)
    · exact h
  have hsz : w.heap.size ≤ w'.heap.size := hcx.size
  have hcell : ∀ g o, g < w.heap.size → w'.cell? ⟨g, o, none⟩ = w.cell? ⟨g, o, none⟩ := fun g o hg => by simp [World.cell?, hold g hg]
  let β2 := Bt.after β β' n c ρ
  have hdomlt : ∀ t b, H t = some b → t < n := fun t b hb => by obtain ⟨p, hp, _⟩ := hs.dom t b hb; exact hs.lt t p hp
  have hok2 : ∀ g, okB X β H g → okB X β2 H g := by
    intro g hg
    refine ⟨hg.1, fun t b p hb hp => ?_⟩
    rw [show β2 t = β t from Bt.after_lt (hdomlt t b hb)] at hp
    exact hg.2 t b p hb hp
  have hstp : Stp β (okB X β H) w β2 (okB X β2 H) w' := by
    refine ⟨fun t p hp => ⟨p, by rw [show β2 t = β t from Bt.after_lt (hs.lt t p hp)]; exact hp, rfl, rfl, rfl⟩, fun t p hp _ _ => by rw [show β2 t = β t from Bt.after_lt (hs.lt t p hp)]; exact hp, hsz, fun g _ hg => hok2 g hg, fun g o hg _ => hcell g o hg⟩
  have hs2 : HSim X β2 w' H (n + c) := by
    refine ⟨?_, ?_, ?_, ?_, fun g hg => by have := hs.xlt g hg; omega⟩
    · intro t p hp
      by_cases ht : t < n
      · omega
      · exact (Bt.after_new (by omega) hp).1
    · intro t t' p p' hp hp' hgg hd hd'
      by_cases ht : t < n <;> by_cases ht' : t' < n
      · rw [show β2 t = β t from Bt.after_lt ht] at hp
        rw [show β2 t' = β t' from Bt.after_lt ht'] at hp'
        exact hs.inj t t' p p' hp hp' hgg hd hd'
      · rw [show β2 t = β t from Bt.after_lt ht] at hp
        obtain ⟨_, q2, _⟩ := Bt.after_new (by omega) hp'
        have h1 := hs.plt hp
        have h2 := hnew _ _ q2
        omega
      · rw [show β2 t' = β t' from Bt.after_lt ht'] at hp'
        obtain ⟨_, q2, _⟩ := Bt.after_new (by omega) hp
        have h1 := hs.plt hp'
        have h2 := hnew _ _ q2
        omega
      · obtain ⟨a1, a2, a3⟩ := Bt.after_new (by omega) hp
        obtain ⟨b1, b2, b3⟩ := Bt.after_new (by omega) hp'
        have := hs'.inj _ _ p p' a2 b2 hgg a3 b3
        have := hρ (t - n) (t' - n) (by omega) (by omega) this
        omega
    · intro t p hp
      by_cases ht : t < n
      · rw [show β2 t = β t from Bt.after_lt ht] at hp
        obtain ⟨h1, cur, e, h2, h3⟩ := hs.blk t p hp
        exact ⟨h1, cur, e, by rw [hold _ (hs.plt hp)]; exact h2, h3⟩
      · obtain ⟨_, q2, _⟩ := Bt.after_new (by omega) hp
        obtain ⟨h1, h2⟩ := hs'.blk _ p q2
        exact ⟨fun hx => h1 (.inl hx), h2⟩
    · intro t b hb
      obtain ⟨p, hp, hd, hz, hl, hx⟩ := hs.dom t b hb
      refine ⟨p, by rw [show β2 t = β t from Bt.after_lt (hdomlt t b hb)]; exact hp, hd, hz, hl, fun i x hi => ⟨(hx i x hi).1, fun j y hj => ?_⟩⟩
      obtain ⟨v, hv, hr⟩ := (hx i x hi).2 j y hj
      exact ⟨v, by rw [hcell _ _ (hs.plt hp)]; exact hv, hr.stp hstp⟩
  have hcx2 : Ctx ⟨X, β, H, n, w⟩ β2 w' H (n + c) := by
    refine ⟨hsz, hcx.os, hcx.tape, hcx.output, by simp, fun t p hp => hstp.tok t p hp, fun t p hp _ => ?_, fun g hg _ => hold g hg, fun t b _ hb => by simp only at hb ⊢; rw [hb]; rfl, ?_, ?_, hs.lt⟩
    · simp only at hp
      rw [show β2 t = β t from Bt.after_lt (hs.lt t p hp)]; exact hp
    · intro t p ht hp hlt
      simp only at ht hlt
      obtain ⟨_, q2, _⟩ := Bt.after_new ht hp
      have := hnew _ _ q2
      omega
    · intro t p ht hp
      simp only at ht ⊢
      rw [show β2 t = β t from Bt.after_lt ht] at hp
      rw [hp]; rfl
  refine ⟨cv, R n, β2, H, n + c, he, ⟨rfl, rfl, rfl⟩, hs2, ?_, hcx2⟩
  have hnewok : ∀ p, w.heap.size ≤ p → ¬ X p → okB X β2 H p := by
    intro g hg hx
    refine ⟨hx, fun t b q hb hq => ?_⟩
    rw [show β2 t = β t from Bt.after_lt (hdomlt t b hb)] at hq
    have := hs.plt hq
    omega
  refine (hvw n).rep (ok' := okB X β2 H) (β' := β2) hs' ?_ ?_ ?_ hrep
  · intro hu g hg
    rcases Nat.lt_or_ge g w.heap.size with hlt | hge
    · refine ⟨fun hx => hg.1 (.inl hx), fun t b q hb hq hqg => ?_⟩
      rw [show β2 t = β t from Bt.after_lt (hdomlt t b hb)] at hq
      exact hg.1 (.inr ⟨t, b, q, hb, hq, hqg, hU hu t⟩)
    · exact hnewok g hge (fun hx => hg.1 (.inl hx))
  · intro t b p _ _ hp
    exact hnewok p.g (hnew t p hp) (fun hx => (hs'.blk t p hp).1 (.inl hx))
  · rintro k t p ⟨j, hj, rfl, rfl⟩ hp hd
    exact ⟨hnewok p.g (hnew _ p hp) (fun hx => (hs'.blk _ p hp).1 (.inl hx)), p, Bt.after_of hj hp hd, rfl, hd⟩

end Go.Am
