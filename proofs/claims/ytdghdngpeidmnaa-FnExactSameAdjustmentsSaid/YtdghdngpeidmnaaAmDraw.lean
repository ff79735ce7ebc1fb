/-
  A part of the proof that the law FnExactSameAdjustments holds (abstract machine, walks, or the join). No conditions.
-/
import Derived.Test.YtdghdngpeidmnaaAmSwap
/-! Two instructions change places. -/
namespace Go.Am
set_option linter.unusedVariables false
set_option linter.unusedSimpArgs false

def callOf (fr : Fr) : AOp → Option (Nat × List AV)
  | .call _ f args => some (f, args.map (·.ev fr))
  | .callv _ t args => match fr t with
    | .fn g caps => some (g, args.map (·.ev fr) ++ caps)
    | _ => none
  | _ => none

theorem callOf_congr {fr fr' : Fr} {op : AOp} (h : ∀ s ∈ op.slots, fr s = fr' s) : callOf fr op = callOf fr' op := by
  cases op <;> simp only [AOp.slots] at h <;> simp only [callOf]
  case call r f l => rw [evs_congr h]
  case callv r t l => rw [h t (by simp), evs_congr fun s hs => h s (by simp [hs])]

/-- What an instruction that is no raw call does. -/
inductive Does (P : Program) (x : AI) (tok : Nat) (fr : Fr) (H : Heap) (n : Nat) (v : AV) (H1 : Heap) (c : Nat) : Prop
  | run (h : x.op.cls ≠ .pc) (hr : x.op.run fr H tok = some (v, H1)) (hc : c = 0) (hf : ∀ s ∈ x.fl, tokKept H H1 (fr s))
  | call (h : x.op.cls = .pc) (f : Nat) (args args' : List AV) (R : Nat → AV) (S : Nat → Prop) (U : Prop) (ho : callOf fr x.op = some (f, args)) (hp : PC P f args' R c U) (hv : Vws H S args args') (hU : U → ∀ t, ¬ S t) (hR : v = R n) (hH : H1 = H)

theorem awpX_run {P : Program} {x : AI} {tok : Nat} {σ : St} {K : St → Prop} (h1 : x.op.cls ≠ .pc) (h2 : x.op.cls ≠ .raw) :
    awpX P x tok σ K ↔ ∃ v H1, x.op.run σ.fr σ.H tok = some (v, H1) ∧ (∀ s ∈ x.fl, tokKept σ.H H1 (σ.fr s)) ∧ K ⟨σ.fr.put x.d v, H1, σ.n⟩ := by
  unfold awpX
  split
  · rename_i r f l e; rw [e] at h1 h2; cases r <;> simp [AOp.cls] at h1 h2
  · rename_i r f l e; rw [e] at h1 h2; cases r <;> simp [AOp.cls] at h1 h2
  · split
    · rename_i v H' e
      constructor
      · intro h; exact ⟨v, H', e, h⟩
      · rintro ⟨v', H1, e', h⟩; rw [e] at e'; cases e'; exact h
    · rename_i e
      constructor
      · intro h; exact h.elim
      · rintro ⟨v', H1, e', h⟩; rw [e] at e'; cases e'

theorem awpX_call {P : Program} {x : AI} {tok : Nat} {σ : St} {K : St → Prop} {r : Bool} (h : x.op.cls = if r then .raw else .pc) :
    awpX P x tok σ K ↔ ∃ f args, callOf σ.fr x.op = some (f, args) ∧ awpC P r f args x.d x.fl σ K := by
  have hr : ∀ r', (if r' = true then Cls.raw else Cls.pc) = (if r = true then Cls.raw else Cls.pc) → r' = r := by intro r'; cases r <;> cases r' <;> simp
  unfold awpX
  split
  · rename_i r' f l e
    rw [e] at h
    have := hr r' h; subst this
    constructor
    · intro hh; exact ⟨f, _, by rw [e]; rfl, hh⟩
    · rintro ⟨f', a', e', hh⟩; rw [e] at e'; cases e'; exact hh
  · rename_i r' f l e
    rw [e] at h
    have := hr r' h; subst this
    constructor
    · intro hh
      cases hv : σ.fr f with
      | fn g caps => rw [hv] at hh; exact ⟨g, _, by rw [e]; simp only [callOf, hv], hh⟩
      | _ => rw [hv] at hh; exact hh.elim
    · rintro ⟨f', a', e', hh⟩
      rw [e] at e'
      simp only [callOf] at e'
      cases hv : σ.fr f with
      | fn g caps => rw [hv] at e'; cases e'; exact hh
      | _ => rw [hv] at e'; cases e'
  · rename_i h1 h2
    exfalso
    cases hop : x.op <;> rw [hop] at h <;> first
      | exact h1 _ _ _ hop
      | exact h2 _ _ _ hop
      | (cases r <;> simp [AOp.cls] at h)

theorem awpX_does {P : Program} {x : AI} {tok : Nat} {σ : St} {K : St → Prop} (h2 : x.op.cls ≠ .raw) :
    awpX P x tok σ K ↔ ∃ v H1 c, Does P x tok σ.fr σ.H σ.n v H1 c ∧ K ⟨σ.fr.put x.d v, H1, σ.n + c⟩ := by
  by_cases h1 : x.op.cls = .pc
  · rw [awpX_call (r := false) h1]
    constructor
    · rintro ⟨f, args, e, args', R, c, S, U, k1, k2, k3, k4⟩
      exact ⟨_, _, c, .call h1 f args args' R S U e k1 k2 k3 rfl rfl, k4⟩
    · rintro ⟨v, H1, c, hd, hk⟩
      cases hd with
      | run h => exact absurd h1 h
      | call _ f args args' R S U e k1 k2 k3 hR hH => subst hR hH; exact ⟨f, args, e, args', R, c, S, U, k1, k2, k3, hk⟩
  · rw [awpX_run h1 h2]
    constructor
    · rintro ⟨v, H1, k1, k2, k3⟩
      exact ⟨v, H1, 0, .run h1 k1 rfl k2, k3⟩
    · rintro ⟨v, H1, c, hd, hk⟩
      cases hd with
      | run h k1 k2 k3 => subst k2; exact ⟨v, H1, k1, k3, hk⟩
      | call h => exact absurd h h1

section
variable {P : Program} {x : AI} {tok : Nat} {f1 f2 : Fr} {H H' H1 : Heap} {n1 n2 : Nat} {v : AV} {c : Nat}

theorem Does.fr (h : Does P x tok f1 H n1 v H1 c) (hs : ∀ s ∈ x.op.slots, f1 s = f2 s) (hf : ∀ s ∈ x.fl, f1 s = f2 s) : Does P x tok f2 H n1 v H1 c := by
  cases h with
  | run h k1 k2 k3 => exact .run h (by rw [← run_congr hs]; exact k1) k2 (fun s hs' => by rw [← hf s hs']; exact k3 s hs')
  | call h f args args' R S U e k1 k2 k3 k4 k5 => exact .call h f args args' R S U (by rw [← callOf_congr hs]; exact e) k1 k2 k3 k4 k5

theorem Does.fl (h : Does P x tok f1 H n1 v H1 c) {y : AI} (ho : y.op = x.op) (hf : ∀ s ∈ y.fl, s ∈ x.fl) : Does P y tok f1 H n1 v H1 c := by
  cases h with
  | run h k1 k2 k3 => exact .run (by rw [ho]; exact h) (by rw [ho]; exact k1) k2 (fun s hs' => k3 s (hf s hs'))
  | call h f args args' R S U e k1 k2 k3 k4 k5 => exact .call (by rw [ho]; exact h) f args args' R S U (by rw [ho]; exact e) k1 k2 k3 k4 k5

theorem Does.n (h : Does P x tok f1 H n1 v H1 c) (h1 : x.op.cls ≠ .pc) : Does P x tok f1 H n2 v H1 c := by
  cases h with
  | run h k1 k2 k3 => exact .run h k1 k2 k3
  | call h => exact absurd h h1

theorem Does.pure (h : Does P x tok f1 H n1 v H1 c) (hc : x.op.cls = .pure) : H1 = H ∧ c = 0 ∧ ∀ H' n', Does P x tok f1 H' n' v H' 0 := by
  cases h with
  | run h k1 k2 k3 =>
    obtain ⟨e1, e2⟩ := run_pure hc k1
    exact ⟨e1, k2, fun H' n' => .run h (e2 _ _) rfl (fun s _ => kept_refl _ _)⟩
  | call h => rw [hc] at h; cases h

theorem Does.load (h : Does P x tok f1 H n1 v H1 c) (hc : x.op.cls = .load) : H1 = H ∧ c = 0 ∧ ∀ H' n', (∀ a, x.op.adr = some a → tokKept H H' (a.ev f1)) → Does P x tok f1 H' n' v H' 0 := by
  cases h with
  | run h k1 k2 k3 =>
    obtain ⟨e1, e2⟩ := run_load hc k1
    exact ⟨e1, k2, fun H' n' hk => .run h (e2 _ _ hk) rfl (fun s _ => kept_refl _ _)⟩
  | call h => rw [hc] at h; cases h

theorem Does.alloc (h : Does P x tok f1 H n1 v H1 c) (hc : x.op.cls = .alloc) (hfl : x.fl = []) : ∃ b, H1 = H.upd tok b ∧ c = 0 ∧ ∀ H' n', Does P x tok f1 H' n' v (H'.upd tok b) 0 := by
  cases h with
  | run h k1 k2 k3 =>
    obtain ⟨b, e1, e2⟩ := run_alloc hc k1
    exact ⟨b, e1, k2, fun H' n' => .run h (e2 _) rfl (fun s hs => by rw [hfl] at hs; cases hs)⟩
  | call h => rw [hc] at h; cases h

theorem Does.wr (h : Does P x tok f1 H n1 v H1 c) (hc : x.op.cls = .wr) {ti : Nat} (hti : H ti = none) (hne : tok ≠ ti) (b : Blk) : c = 0 ∧ ∀ n', Does P x tok f1 (H.upd ti b) n' v (H1.upd ti b) 0 := by
  cases h with
  | run h k1 k2 k3 =>
    refine ⟨k2, fun n' => .run h (run_wr hc hti hne k1) rfl (fun s hs => ?_)⟩
    have := k3 s hs
    revert this
    cases f1 s <;> simp only [tokKept] <;> try (intro; trivial)
    all_goals
      intro hk u hu
      simp only [Heap.upd] at hu ⊢
      split at hu
      · rename_i e; rw [if_pos e]; exact hu
      · rename_i e; rw [if_neg e]; exact hk _ hu
  | call h => rw [hc] at h; cases h

theorem Does.pcx (h : Does P x tok f1 H n1 v H1 c) (hc : x.op.cls = .pc) : H1 = H ∧ ∀ H', (∀ u b, H u = some b → H' u = some b) → Does P x tok f1 H' n1 v H' c := by
  cases h with
  | run h => exact absurd hc h
  | call h f args args' R S U e k1 k2 k3 k4 k5 =>
    exact ⟨k5, fun H' hh => .call h f args args' R S U e k1 ⟨k2.1, fun j x y hx hy => (k2.2 j x y hx hy).ext hh⟩ k3 k4 rfl⟩
end

def dstNot (d : Option Nat) (l : List Nat) : Bool :=
  match d with
  | some d => !l.contains d
  | none => true

/-- May i run before x, which stands before it in the list? -/
def clsOk (x i : AI) : Bool :=
  match x.op.cls, i.op.cls with
  | .pure, _ => true
  | .raw, _ => false
  | _, .pure => true
  | .load, .load => true
  | .load, .alloc => i.fl.isEmpty
  | .load, .pc => true
  | .load, .wr => match x.op.adr with
    | some (.t s) => i.fl.contains s && dstNot x.d [s]
    | some (.c (.ad _ _ _)) => false
    | some (.c (.rf _ _ _)) => false
    | _ => true
  | .load, .raw => match x.op.adr with
    | some (.t s) => i.fl.contains s && dstNot x.d [s]
    | some (.c (.ad _ _ _)) => false
    | some (.c (.rf _ _ _)) => false
    | _ => true
  | .alloc, .alloc => x.fl.isEmpty && i.fl.isEmpty
  | .pc, .load => true
  | .pc, .alloc => i.fl.isEmpty
  | .wr, .alloc => i.fl.isEmpty
  | _, _ => false

def dstNe (d e : Option Nat) : Bool :=
  match d, e with
  | some d, some e => d != e
  | _, _ => true

def gslot (x : AI) : List Nat :=
  match x.g with
  | some (s, _) => [s]
  | none => []

def okPair (x i : AI) : Bool :=
  clsOk x i && dstNot x.d (gslot i ++ i.op.slots) && dstNot i.d (gslot x ++ x.op.slots) && dstNe x.d i.d && dstNot i.d x.fl

/-- The instruction after it has passed x. -/
def AI.past (i x : AI) : AI := { i with fl := i.fl.filter fun s => dstNot x.d [s] }

theorem put_other {fr : Fr} {d : Option Nat} {v : AV} {l : List Nat} (h : dstNot d l = true) : ∀ s ∈ l, (fr.put d v) s = fr s := by
  intro s hs
  cases d with
  | none => rfl
  | some d =>
    simp only [dstNot, Bool.not_eq_true', List.contains_eq_mem, decide_eq_false_iff_not] at h
    simp only [Fr.put, Fr.set]
    rw [if_neg (by intro e; subst e; exact h hs)]

theorem put_comm {fr : Fr} {d e : Option Nat} {v u : AV} (h : dstNe d e = true) : (fr.put d v).put e u = (fr.put e u).put d v := by
  cases d with
  | none => rfl
  | some d =>
    cases e with
    | none => rfl
    | some e =>
      simp only [dstNe, bne_iff_ne, ne_eq] at h
      funext k
      simp only [Fr.put, Fr.set]
      by_cases h1 : k = d <;> by_cases h2 : k = e <;> simp [h1, h2]
      · subst h1; subst h2; exact absurd rfl h
      · subst h1; intro h3; exact absurd h3 h
      · subst h2; intro h3; exact absurd h3.symm h

theorem dstNot_append {d : Option Nat} {l m : List Nat} (h : dstNot d (l ++ m) = true) : dstNot d l = true ∧ dstNot d m = true := by
  cases d with
  | none => exact ⟨rfl, rfl⟩
  | some d => simpa [dstNot] using h

theorem past_fl {fr : Fr} {i x : AI} {v : AV} {s : Nat} (hs : s ∈ (i.past x).fl) : s ∈ i.fl ∧ (fr.put x.d v) s = fr s := by
  simp only [AI.past, List.mem_filter] at hs
  exact ⟨hs.1, put_other hs.2 s (by simp)⟩

/-- TWO INSTRUCTIONS CHANGE PLACES. -/
theorem swapX {P : Program} {x i : AI} {tx ti : Nat} {σ : St} {K : St → Prop} (hc : clsOk x i = true) (h1 : dstNot x.d i.op.slots = true) (h2 : dstNot i.d x.op.slots = true) (h3 : dstNe x.d i.d = true) (h4 : dstNot i.d x.fl = true)
    (hne : tx ≠ ti) (hti : σ.H ti = none) (h : awpX P x tx σ fun σ1 => awpX P i ti σ1 K) : awpX P (i.past x) ti σ fun σ1 => awpX P x tx σ1 K := by
  have hxr : x.op.cls ≠ .raw := by intro e; simp [clsOk, e] at hc
  obtain ⟨v, H1, c, hx, hk⟩ := (awpX_does hxr).1 h
  have eS : ∀ s ∈ i.op.slots, (σ.fr.put x.d v) s = σ.fr s := put_other h1
  have eX : ∀ {u H' n' v' H1' c'}, Does P x tx σ.fr H' n' v' H1' c' → Does P x tx (σ.fr.put i.d u) H' n' v' H1' c' := fun hx => hx.fr (fun s hs => (put_other h2 s hs).symm) (fun s hs => (put_other h4 s hs).symm)
  -- a load behind a writer
  have eL : ∀ H', x.op.cls = .load → (i.op.cls = .wr ∨ i.op.cls = .raw) → (∀ s ∈ i.fl, tokKept σ.H H' ((σ.fr.put x.d v) s)) → ∀ n', Does P x tx σ.fr H' n' v H' 0 := by
    intro H' hl hi hk n'
    refine (hx.load hl).2.2 H' n' fun a ha => ?_
    have hcc : (match x.op.adr with
        | some (.t s) => i.fl.contains s && dstNot x.d [s]
        | some (.c (.ad _ _ _)) => false
        | some (.c (.rf _ _ _)) => false
        | _ => true) = true := by
      rcases hi with hi | hi <;> simpa [clsOk, hl, hi] using hc
    rw [ha] at hcc
    cases a with
    | t s =>
      simp only [Bool.and_eq_true, List.contains_eq_mem, decide_eq_true_eq] at hcc
      have hm : s ∈ i.fl := hcc.1
      have := hk s hm
      have e : (σ.fr.put x.d v) s = σ.fr s := by
        exact put_other (l := [s]) hcc.2 s (by simp)
      rw [e] at this; exact this
    | c w => cases w <;> simp at hcc <;> simp [AO.ev, tokKept]
  by_cases hir : i.op.cls = .raw
  · obtain ⟨f, args, e, hm⟩ := (awpX_call (r := true) hir).1 hk
    refine (awpX_call (x := i.past x) (r := true) hir).2 ⟨f, args, (callOf_congr eS).symm.trans e, ?_⟩
    have hxx : H1 = σ.H ∧ c = 0 ∧ ∀ H' n', (∀ s ∈ i.fl, tokKept σ.H H' ((σ.fr.put x.d v) s)) → Does P x tx σ.fr H' n' v H' 0 := by
      cases hcx : x.op.cls <;> simp [clsOk, hcx, hir] at hc
      · obtain ⟨e1, e2, e3⟩ := hx.pure hcx
        exact ⟨e1, e2, fun H' n' _ => e3 H' n'⟩
      · obtain ⟨e1, e2, _⟩ := hx.load hcx
        exact ⟨e1, e2, fun H' n' hk => eL H' hcx (.inr hir) hk n'⟩
    obtain ⟨rfl, rfl, e3⟩ := hxx
    refine MC.mono hm fun v' H' n' hq => ⟨fun s hs => ?_, ?_⟩
    · obtain ⟨hs1, hs2⟩ := past_fl (fr := σ.fr) (v := v) hs
      have := hq.1 s hs1
      simp only [hs2] at this
      exact this
    · refine (awpX_does hxr).2 ⟨v, H', 0, eX (e3 H' n' hq.1), ?_⟩
      have := hq.2
      simp only [AI.past, put_comm h3] at this ⊢
      exact this
  · obtain ⟨u, H2, c2, hi, hkk⟩ := (awpX_does hir).1 hk
    have hi' : Does P (i.past x) ti σ.fr H1 (σ.n + c) u H2 c2 := (hi.fl (y := i.past x) rfl fun s hs => (past_fl (fr := σ.fr) (v := v) hs).1).fr eS fun s hs => (past_fl (fr := σ.fr) (v := v) hs).2
    have fin : ∀ Hm c2' c', Does P (i.past x) ti σ.fr σ.H σ.n u Hm c2' → Does P x tx σ.fr Hm (σ.n + c2') v H2 c' → σ.n + c2' + c' = σ.n + c + c2 → awpX P (i.past x) ti σ fun σ1 => awpX P x tx σ1 K := by
      intro Hm c2' c' d1 d2 hn
      refine (awpX_does (x := i.past x) hir).2 ⟨u, Hm, c2', d1, (awpX_does hxr).2 ⟨v, H2, c', eX d2, ?_⟩⟩
      simp only [AI.past, put_comm h3] at hkk ⊢
      simp only [hn]
      exact hkk
    have hpf : ∀ c, (i.past x).op.cls = c ↔ i.op.cls = c := fun c => Iff.rfl
    have hfe : i.fl = [] → (i.past x).fl = [] := fun e => by simp [AI.past, e]
    by_cases hip : i.op.cls = .pure
    · obtain ⟨rfl, rfl, e3⟩ := hi'.pure hip
      exact fin σ.H 0 c (e3 _ _) hx (by omega)
    by_cases hxp : x.op.cls = .pure
    · obtain ⟨rfl, rfl, e3⟩ := hx.pure hxp
      exact fin H2 c2 0 hi' (e3 _ _) (by omega)
    cases hcx : x.op.cls <;> cases hci : i.op.cls <;> simp [clsOk, hcx, hci] at hc hip hxp hir
    · -- load, load
      obtain ⟨rfl, rfl, _⟩ := hx.load hcx
      obtain ⟨rfl, rfl, e3⟩ := hi'.load hci
      exact fin _ 0 0 hi' hx (by omega)
    · -- load, alloc
      obtain ⟨rfl, rfl, e3⟩ := hx.load hcx
      obtain ⟨b, rfl, rfl, e4⟩ := hi'.alloc hci (hfe hc)
      exact fin _ 0 0 hi' (e3 _ _ fun a _ => kept_upd hti _) (by omega)
    · -- load, wr
      obtain ⟨rfl, rfl, e3⟩ := hx.load hcx
      refine fin _ c2 0 hi' (eL H2 hcx (.inl hci) ?_ _) (by omega)
      cases hi with
      | run _ _ _ hk => exact hk
      | call h => rw [hci] at h; cases h
    · -- load, pc
      obtain ⟨rfl, rfl, e3⟩ := hx.load hcx
      obtain ⟨rfl, _⟩ := hi'.pcx hci
      exact fin _ c2 0 hi' (e3 _ _ fun a _ => kept_refl _ _) (by omega)
    · -- alloc, alloc
      obtain ⟨b, rfl, rfl, e3⟩ := hx.alloc hcx hc.1
      obtain ⟨b', rfl, rfl, e4⟩ := hi'.alloc hci (hfe hc.2)
      refine fin _ 0 0 (e4 _ _) ?_ (by omega)
      rw [upd_comm hne]
      exact e3 _ _
    · -- wr, alloc
      obtain ⟨b', rfl, rfl, e4⟩ := hi'.alloc hci (hfe hc)
      obtain ⟨rfl, e5⟩ := hx.wr hcx hti hne b'
      exact fin _ 0 0 (e4 _ _) (e5 _) (by omega)
    · -- pc, load
      obtain ⟨rfl, e3⟩ := hx.pcx hcx
      obtain ⟨rfl, rfl, e4⟩ := hi'.load hci
      exact fin _ 0 c (e4 _ _ fun a _ => kept_refl _ _) hx (by omega)
    · -- pc, alloc
      obtain ⟨rfl, e3⟩ := hx.pcx hcx
      obtain ⟨b, rfl, rfl, e4⟩ := hi'.alloc hci (hfe hc)
      exact fin _ 0 c (e4 _ _) (e3 _ (upd_ext hti)) (by omega)

end Go.Am
