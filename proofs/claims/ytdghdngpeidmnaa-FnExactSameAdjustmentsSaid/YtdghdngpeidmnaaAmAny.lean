/-
  A part of the proof that the law FnExactSameAdjustments holds (abstract machine, walks, or the join). No conditions.
-/
import Derived.Test.YtdghdngpeidmnaaAmFront
/-! Every order of a region that draws. -/
namespace Go.Am
set_option linter.unusedVariables false
set_option linter.unusedSimpArgs false

/-- The operations that one operation must follow. -/
def predsOf (o : Oper) : List Nat := o.after.toList.filterMap fun e => if Region.binds .any e then some e.on else none

def predsAt (ops : Array Oper) (k : Nat) : List Nat :=
  match ops[k]? with
  | some o => predsOf o
  | none => []

def lookT : List (Nat × Nat) → Nat → Nat
  | [], _ => 0
  | (j, m) :: r, k => if j = k then m else lookT r k

def maskOf (tab : List (Nat × Nat)) : List Nat → Nat
  | [] => 0
  | p :: r => (2 ^ p ||| lookT tab p) ||| maskOf tab r

def tabOf (preds : Nat → List Nat) : List Nat → List (Nat × Nat) → List (Nat × Nat)
  | [], tab => tab
  | k :: r, tab => tabOf preds r ((k, maskOf tab (preds k)) :: tab)

def flOk (i : AI) : Bool :=
  match i.op.cls with
  | .alloc => i.fl.isEmpty
  | _ => true

def checkL (preds : Nat → List Nat) (tab : List (Nat × Nat)) : List (Nat × AI) → List (Nat × AI) → Bool
  | _, [] => true
  | A, (k, i) :: B => !(A.map (·.1)).contains k && (preds k).all (fun e => (A.map (·.1)).contains e) && flOk i && (passAll (A.filter fun p => !(lookT tab k).testBit p.1) i).2 && checkL preds tab (A ++ [(k, i)]) B

/-- What must have run before. -/
inductive Anc (preds : Nat → List Nat) : Nat → Nat → Prop
  | base (x k : Nat) (h : x ∈ preds k) : Anc preds x k
  | step (x p k : Nat) (h : p ∈ preds k) (ha : Anc preds x p) : Anc preds x k

def TabOk (preds : Nat → List Nat) (tab : List (Nat × Nat)) : Prop := ∀ k x, (lookT tab k).testBit x = true → Anc preds x k

theorem maskOf_anc {preds : Nat → List Nat} {tab : List (Nat × Nat)} (ht : TabOk preds tab) : ∀ {ps : List Nat} {x : Nat}, (maskOf tab ps).testBit x = true → x ∈ ps ∨ ∃ p ∈ ps, Anc preds x p
  | [], x, h => by simp [maskOf] at h
  | p :: r, x, h => by
    simp only [maskOf, Nat.testBit_or, Bool.or_eq_true, Nat.testBit_two_pow, decide_eq_true_eq] at h
    rcases h with (h | h) | h
    · subst h; exact .inl (by simp)
    · exact .inr ⟨p, by simp, ht p x h⟩
    · rcases maskOf_anc ht h with h | ⟨q, hq, ha⟩
      · exact .inl (by simp [h])
      · exact .inr ⟨q, by simp [hq], ha⟩

theorem tabOf_ok {preds : Nat → List Nat} : ∀ (l : List Nat) (tab : List (Nat × Nat)), TabOk preds tab → TabOk preds (tabOf preds l tab)
  | [], tab, h => h
  | k :: r, tab, h => by
    refine tabOf_ok r _ fun j x hx => ?_
    simp only [lookT] at hx
    split at hx
    · rename_i e
      subst e
      rcases maskOf_anc h hx with h1 | ⟨p, hp, ha⟩
      · exact .base x k h1
      · exact .step x p k hp ha
    · exact h j x hx

theorem TabOk.nil {preds : Nat → List Nat} : TabOk preds [] := fun k x h => by simp [lookT] at h

theorem checkL_at {preds : Nat → List Nat} {tab : List (Nat × Nat)} : ∀ {L A0 : List (Nat × AI)}, checkL preds tab A0 L = true → ∀ {A B : List (Nat × AI)} {k : Nat} {i : AI}, L = A ++ (k, i) :: B →
    (∀ p ∈ A0 ++ A, p.1 ≠ k) ∧ (∀ e ∈ preds k, ∃ p ∈ A0 ++ A, p.1 = e) ∧ flOk i = true ∧ (passAll ((A0 ++ A).filter fun p => !(lookT tab k).testBit p.1) i).2 = true := by
  intro L
  induction L with
  | nil => intro A0 h A B k i e; simp at e
  | cons q r ih =>
    obtain ⟨k', i'⟩ := q
    intro A0 h A B k i e
    simp only [checkL, Bool.and_eq_true] at h
    cases A with
    | nil =>
      simp only [List.nil_append, List.cons.injEq, Prod.mk.injEq] at e
      obtain ⟨⟨rfl, rfl⟩, rfl⟩ := e
      obtain ⟨⟨⟨⟨h1, h2⟩, h3⟩, h4⟩, _⟩ := h
      simp only [List.append_nil]
      refine ⟨fun p hp e => ?_, fun e he => ?_, h3, h4⟩
      · simp only [Bool.not_eq_true', List.contains_eq_mem, decide_eq_false_iff_not, List.mem_map, not_exists, not_and] at h1
        exact h1 p hp e
      · have := List.all_eq_true.1 h2 e he
        simpa using this
    | cons a A =>
      simp only [List.cons_append, List.cons.injEq] at e
      obtain ⟨rfl, e⟩ := e
      have := ih h.2 e
      simpa using this

section
variable {P : Program} {rw : Nat → Bool} {rv : Bool} {E : Entry} {N : Nat} {ops : Array Oper}

/-- The instructions of a list are the operations of the region. -/
def Ins (P : Program) (rw : Nat → Bool) (rv : Bool) (N : Nat) (ops : Array Oper) (L : List (Nat × AI)) : Prop :=
  ∀ p ∈ L, ∃ o i0, ops[p.1]? = some o ∧ cop P rw rv N ops o = some i0 ∧ p.2.d = i0.d ∧ p.2.op = i0.op ∧ p.2.g = i0.g

theorem mem_ready {listed : Array Bool} {i : Nat} : i ∈ Region.ready .any ops listed ↔ i < ops.size ∧ listed.getD i true = false ∧ ∀ e ∈ predsAt ops i, listed.getD e false = true := by
  unfold Region.ready predsAt predsOf
  simp only [List.mem_filter, List.mem_range, Bool.and_eq_true, Bool.not_eq_true']
  constructor
  · rintro ⟨h1, h2, h3⟩
    refine ⟨h1, h2, ?_⟩
    rw [Array.getElem?_eq_getElem h1] at h3 ⊢
    simp only [Option.map_some, Option.getD_some, Array.all_eq_true', Bool.or_eq_true, Bool.not_eq_true'] at h3
    intro e he
    simp only [List.mem_filterMap, Array.mem_toList_iff] at he
    obtain ⟨x, hx, hh⟩ := he
    split at hh
    · rename_i hb
      cases hh
      rcases h3 x hx with h | h
      · rw [hb] at h; cases h
      · exact h
    · cases hh
  · rintro ⟨h1, h2, h3⟩
    refine ⟨h1, h2, ?_⟩
    rw [Array.getElem?_eq_getElem h1] at h3 ⊢
    simp only [Option.map_some, Option.getD_some, Array.all_eq_true', Bool.or_eq_true, Bool.not_eq_true']
    intro x hx
    cases hb : Region.binds .any x with
    | false => exact .inl rfl
    | true =>
      refine .inr (h3 _ ?_)
      simp only [List.mem_filterMap, Array.mem_toList_iff]
      exact ⟨x, hx, by rw [if_pos hb]⟩

theorem anc_listed {listed : Array Bool} (hdown : ∀ k, listed.getD k false = true → ∀ e ∈ predsAt ops k, listed.getD e false = true) {x k : Nat} (h : Anc (predsAt ops) x k) (hk : ∀ e ∈ predsAt ops k, listed.getD e false = true) : listed.getD x false = true := by
  induction h with
  | base k h => exact hk x h
  | step p k h _ ih => exact ih (hdown p (hk p h))

theorem any_sound {L : List (Nat × AI)} {tab : List (Nat × Nat)} (htab : TabOk (predsAt ops) tab) (hL : checkL (predsAt ops) tab [] L = true) (hcov : ∀ k, k < ops.size → ∃ p ∈ L, p.1 = k) (hins : Ins P rw rv N ops L)
    {Q : Exit → Act → World → Prop} {K : St → Prop} (hQ : ∀ β a w σ, Sim E β N a w σ → K σ → Q .normal a w) {n0 : Nat} (hE : E.n ≤ n0) : ∀ (fuel : Nat) (listed : Array Bool) (β : Bt) (a : Act) (w : World) (σ : St), listed.size = ops.size →
    (L.filter fun p => !listed.getD p.1 true).length = fuel → (∀ k, listed.getD k false = true → ∀ e ∈ predsAt ops k, listed.getD e false = true) → Sim E β N a w σ →
    Free β (fun t => ∃ p ∈ L.filter fun p => !listed.getD p.1 true, t = n0 + p.1) σ.n → awpD P n0 (L.filter fun p => !listed.getD p.1 true) σ K → wpAny P .any ops Q fuel listed a w := by
  have hlt : ∀ p ∈ L, p.1 < ops.size := by
    intro p hp
    obtain ⟨o, i0, h1, _⟩ := hins p hp
    exact (Array.getElem?_eq_some_iff.1 h1).1
  have hgd : ∀ (listed : Array Bool), listed.size = ops.size → ∀ k, k < ops.size → listed.getD k true = listed.getD k false := by
    intro listed hs k hk
    simp [Array.getD, hs, hk]
  have hnil : ∀ (listed : Array Bool), (L.filter fun p => !listed.getD p.1 true) = [] → Region.ready .any ops listed = [] := by
    intro listed he
    refine List.eq_nil_iff_forall_not_mem.2 fun i hi => ?_
    obtain ⟨h1, h2, _⟩ := mem_ready.1 hi
    obtain ⟨p, hp, rfl⟩ := hcov i h1
    have : p ∈ L.filter fun p => !listed.getD p.1 true := by simp only [List.mem_filter]; exact ⟨hp, by rw [h2]; rfl⟩
    rw [he] at this; cases this
  intro fuel
  induction fuel with
  | zero =>
    intro listed β a w σ hsz hlen hdown h hf hx
    have he := List.length_eq_zero_iff.1 hlen
    rw [he] at hx
    exact ⟨hnil listed he, hQ β a w σ h hx⟩
  | succ fuel ih =>
    intro listed β a w σ hsz hlen hdown h hf hx
    refine ⟨fun hr => ?_, fun ki hi => ?_⟩
    · exfalso
      cases hc : L.filter fun p => !listed.getD p.1 true with
      | nil => rw [hc] at hlen; simp at hlen
      | cons q r =>
        obtain ⟨A, B, e, hA, hq, hB⟩ := List.filter_eq_cons_iff.1 hc
        obtain ⟨k0, i0⟩ := q
        obtain ⟨_, g2, _, _⟩ := checkL_at hL e
        have hq' : listed.getD k0 true = false := by simpa using hq
        have : k0 ∈ Region.ready .any ops listed := by
          refine mem_ready.2 ⟨hlt (k0, i0) (by rw [e]; simp), hq', fun x hx => ?_⟩
          obtain ⟨p, hp, rfl⟩ := g2 x hx
          simp only [List.nil_append] at hp
          have := hA p hp
          rw [← hgd listed hsz p.1 (hlt p (by rw [e]; simp [hp]))]
          simpa using this
        rw [hr] at this; cases this
    · obtain ⟨h1, h2, h3⟩ := mem_ready.1 hi
      obtain ⟨q, hq, rfl⟩ := hcov ki h1
      obtain ⟨ki, i⟩ := q
      obtain ⟨A, B, e⟩ := List.append_of_mem hq
      obtain ⟨g1, g2, g3, g4⟩ := checkL_at hL e
      simp only [List.nil_append] at g1 g2 g4
      have g1B : ∀ p ∈ B, p.1 ≠ ki := by
        intro p hp
        obtain ⟨B1, B2, eB⟩ := List.append_of_mem hp
        obtain ⟨k1, _⟩ := checkL_at hL (A := A ++ (ki, i) :: B1) (B := B2) (k := p.1) (i := p.2) (by rw [e, eB]; simp)
        exact fun e' => (k1 (ki, i) (by simp)) e'.symm
      have hcur : (L.filter fun p => !listed.getD p.1 true) = (A.filter fun p => !listed.getD p.1 true) ++ (ki, i) :: (B.filter fun p => !listed.getD p.1 true) := by
        rw [e, List.filter_append, List.filter_cons_of_pos (by simpa using h2)]
      have hset : ∀ p : Nat × AI, p.1 ≠ ki → (listed.setIfInBounds ki true).getD p.1 true = listed.getD p.1 true := by
        intro p hp
        simp only [Array.getD_eq_getD_getElem?]
        rw [Array.getElem?_setIfInBounds_ne (fun e => hp e.symm)]
      have hcur' : (L.filter fun p => !(listed.setIfInBounds ki true).getD p.1 true) = (A.filter fun p => !listed.getD p.1 true) ++ (B.filter fun p => !listed.getD p.1 true) := by
        have hki : (listed.setIfInBounds ki true).getD ki true = true := by
          simp only [Array.getD_eq_getD_getElem?]
          rw [Array.getElem?_setIfInBounds_self_of_lt (by simp only at h1; omega)]
          rfl
        rw [e, List.filter_append, List.filter_cons_of_neg (by simp [hki])]
        congr 1
        · exact List.filter_congr fun p hp => by rw [hset p (g1 p hp)]
        · exact List.filter_congr fun p hp => by rw [hset p (g1B p hp)]
      have hsub : (A.filter fun p => !listed.getD p.1 true).Sublist (A.filter fun p => !(lookT tab ki).testBit p.1) := by
        have : (A.filter fun p => !listed.getD p.1 true) = ((A.filter fun p => !(lookT tab ki).testBit p.1).filter fun p => !listed.getD p.1 true) := by
          rw [List.filter_filter]
          refine List.filter_congr fun p hp => ?_
          cases hb : (lookT tab ki).testBit p.1 with
          | false => simp
          | true =>
            have := anc_listed hdown (htab ki p.1 hb) h3
            rw [← hgd listed hsz p.1 (hlt p (by rw [e]; simp [hp]))] at this
            simp [this]
        rw [this]
        exact List.filter_sublist
      have hfl : i.op.cls = .alloc → i.fl = [] := by
        intro ha
        unfold flOk at g3
        rw [ha] at g3
        simpa using g3
      obtain ⟨hpass, _⟩ := passAll_sub hfl hsub g4
      rw [hcur] at hx
      have hfree : β (n0 + ki) = none := (hf (n0 + ki) ⟨(ki, i), by rw [hcur]; simp, rfl⟩).1
      have hH : σ.H (n0 + ki) = none := by
        cases hh : σ.H (n0 + ki) with
        | none => rfl
        | some b =>
          obtain ⟨p, hp, _⟩ := h.hs.dom _ b hh
          rw [hfree] at hp; cases hp
      have hfront := awpD_front (A.filter fun p => !listed.getD p.1 true) σ hpass (fun p hp => g1 p (List.mem_filter.1 hp).1) hH hx
      obtain ⟨a1, a2, a3, _⟩ := passAll_same (A.filter fun p => !listed.getD p.1 true) i
      obtain ⟨o, i0, k1, k2, k3, k4, k5⟩ := hins (ki, i) hq
      refine awpI_sound h k1 k2 ⟨a1.trans k3, a2.trans k4, a3.trans k5⟩ hf ⟨(ki, i), by rw [hcur]; simp, rfl⟩ (by omega) hfront ?_
      intro β' a' w' σ' h' hf' hK
      refine ih _ β' a' w' σ' (by simp [hsz]) ?_ ?_ h' ?_ (by rw [hcur']; exact hK)
      · rw [hcur'] 
        rw [hcur] at hlen
        simp only [List.length_append, List.length_cons] at hlen ⊢
        omega
      · intro k hk x hxp
        have hmono : ∀ y, listed.getD y false = true → (listed.setIfInBounds ki true).getD y false = true := by
          intro y hy
          simp only [Array.getD_eq_getD_getElem?] at hy ⊢
          by_cases e : ki = y
          · subst e; rw [Array.getElem?_setIfInBounds_self_of_lt (by simp only at h1; omega)]; rfl
          · rw [Array.getElem?_setIfInBounds_ne e]; exact hy
        by_cases e : k = ki
        · subst e; exact hmono x (h3 x hxp)
        · refine hmono x (hdown k ?_ x hxp)
          simp only [Array.getD_eq_getD_getElem?] at hk ⊢
          rw [Array.getElem?_setIfInBounds_ne (fun e' => e e'.symm)] at hk
          exact hk
      · intro t ht
        obtain ⟨p, hp, rfl⟩ := ht
        rw [hcur'] at hp
        refine hf' _ ⟨⟨p, by rw [hcur]; simp only [List.mem_append, List.mem_cons] at hp ⊢; rcases hp with h | h; exact .inl h; exact .inr (.inr h), rfl⟩, ?_⟩
        have : p.1 ≠ ki := by
          rcases List.mem_append.1 hp with h | h
          · exact g1 p (List.mem_filter.1 h).1
          · exact g1B p (List.mem_filter.1 h).1
        omega
end

end Go.Am
