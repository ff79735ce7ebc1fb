/-
  A part of the proof that the law FnExactSameAdjustments holds (abstract machine, walks, or the join). No conditions.
-/
import Derived.Test.YtdghdngpeidmnaaAmFn
/-! Contracts of functions: how they are stated and proved. -/
namespace Go.Am
set_option linter.unusedVariables false

theorem awpI_imp {P : Program} {j : AI} {tok : Nat} {σ : St} {K K' : St → Prop} (hk : ∀ σ1, K σ1 → K' σ1) (h : awpI P j tok σ K) : awpI P j tok σ K' := by
  obtain ⟨k, e, hx⟩ := awpI_now.1 h
  exact awpI_now.2 ⟨k, e, awpX_mono (fun σ1 _ _ h3 => hk σ1 h3) hx⟩

theorem awpOps_mono {P : Program} {K K' : St → Prop} (hk : ∀ σ, K σ → K' σ) : ∀ {l : List AI} {tok : Nat} {σ : St}, awpOps P l tok σ K → awpOps P l tok σ K'
  | [], _, σ, h => hk σ h
  | i :: r, tok, σ, h => awpI_imp (fun σ1 h1 => awpOps_mono hk h1) h

theorem awpD_mono {P : Program} {n0 : Nat} {K K' : St → Prop} (hk : ∀ σ, K σ → K' σ) : ∀ {l : List (Nat × AI)} {σ : St}, awpD P n0 l σ K → awpD P n0 l σ K'
  | [], σ, h => hk σ h
  | (k, i) :: r, σ, h => awpI_imp (fun σ1 h1 => awpD_mono hk h1) h

theorem awp_mono {P : Program} {c : AC} : ∀ {Q Q' : AEx → St → Prop} {σ : St}, (∀ e σ, Q e σ → Q' e σ) → awp P c Q σ → awp P c Q' σ := by
  induction c with
  | skip => intro Q Q' σ h hx; exact h _ _ hx
  | ops l => intro Q Q' σ h hx; exact awpOps_mono (fun σ => h _ σ) hx
  | opsd l => intro Q Q' σ h hx; exact awpD_mono (fun σ => h _ σ) hx
  | seq a b iha ihb =>
    intro Q Q' σ h hx
    refine iha (fun e σ' hq => ?_) hx
    cases e with
    | normal => exact ihb h hq
    | exit id => exact h _ _ hq
    | ret => exact h _ _ hq
  | cond c x y ihx ihy =>
    intro Q Q' σ h hx
    simp only [awp] at hx ⊢
    split at hx
    · rename_i q hq
      cases q
      · simp only [Bool.false_eq_true, if_false] at hx ⊢; exact ihy h hx
      · simp only [if_true] at hx ⊢; exact ihx h hx
    · exact hx.elim
  | block id x ih =>
    intro Q Q' σ h hx
    refine ih (fun e σ' hq => ?_) hx
    cases e with
    | normal => exact h _ _ hq
    | exit id' =>
      simp only at hq ⊢
      split at hq
      · rename_i e; rw [if_pos e]; exact h _ _ hq
      · rename_i e; rw [if_neg e]; exact h _ _ hq
    | ret => exact h _ _ hq
  | loop x ih =>
    intro Q Q' σ h hx
    obtain ⟨I, m, h0, hr⟩ := hx
    refine ⟨I, m, h0, fun k σ' hI => ih (fun e σ'' hq => ?_) (hr k σ' hI)⟩
    cases e with
    | normal => exact hq
    | exit id => exact h _ _ hq
    | ret => exact h _ _ hq
  | exit id => intro Q Q' σ h hx; exact h _ _ hx
  | ret => intro Q Q' σ h hx; exact h _ _ hx

/-- The program has this function at this number, compiled. -/
def Has (P : Program) (f : Nat) (af : AF) : Prop := ∃ fn rw rv, P.funcs[f]? = some fn ∧ compF P rw rv fn = some af

/-- What must hold at the end of a body. -/
def Fin (res : List AR) (Q : AV → Heap → Nat → Prop) (e : AEx) (σ : St) : Prop :=
  match e with
  | .exit _ => False
  | _ => ∃ vs, AR.gets σ res = some vs ∧ Q (one vs) σ.H σ.n

theorem mc_of {P : Program} {f : Nat} {af : AF} (h : Has P f af) {args : List AV} {H : Heap} {n : Nat} {Q : AV → Heap → Nat → Prop} (hl : args.length ≤ af.n)
    (hx : awp P af.code (Fin af.res Q) ⟨frOf args, H, n⟩) : MC P f args H n Q := by
  obtain ⟨fn, rw', rv, hf, hc⟩ := h
  refine mc_of_awp hf hc hl ?_
  refine awp_mono (fun e σ hq => ?_) hx
  cases e with
  | exit id => exact hq.elim
  | normal => obtain ⟨vs, h1, h2⟩ := hq; simp only [h1]; exact h2
  | ret => obtain ⟨vs, h1, h2⟩ := hq; simp only [h1]; exact h2

/-- The end of a data contract. -/
def Data (R : Nat → AV) (c : Nat) (U : Prop) (v : AV) (H' : Heap) (n' : Nat) : Prop :=
  ∃ ρ : Nat → Nat, (∀ k k', k < c → k' < c → ρ k = ρ k' → k = k') ∧ ∀ n, Vw H' (fun _ => True) (fun k t => ∃ j, j < c ∧ k = n + j ∧ ρ j = t) U v (R n)

theorem pc_of {P : Program} {f : Nat} {af : AF} (h : Has P f af) {args : List AV} {R : Nat → AV} {c : Nat} {U : Prop} (hl : args.length ≤ af.n)
    (hx : awp P af.code (Fin af.res (Data R c U)) ⟨frOf args, noHeap, 0⟩) : PC P f args R c U := mc_of h hl hx

/-- From data to data: the result is no memory of the call's own that the caller may write. -/
def DC (P : Program) (f : Nat) (args : List AV) (r : AV) : Prop := PC P f args (fun _ => r) 0 True

/-- From data to a value without memory. -/
def SC (P : Program) (f : Nat) (args : List AV) (r : AV) : Prop := PC P f args (fun _ => r) 0 False

theorem Vw.mono {H : Heap} {S : Nat → Prop} {T T' : Nat → Nat → Prop} {U U' : Prop} (ht : ∀ k t, T k t → T' k t) (hU : U → U') {x y : AV} (h : Vw H S T U x y) : Vw H S T' U' x y := by
  induction h with
  | top v => exact .top v
  | b x => exact .b x
  | i k m => exact .i k m
  | s x => exact .s x
  | agg cs ds hl h ih => exact .agg cs ds hl ih
  | tup cs ds hl h ih => exact .tup cs ds hl ih
  | fn f cs ds hl h ih => exact .fn f cs ds hl ih
  | nl => exact .nl
  | nlsl t => exact .nlsl t
  | sl0 t u => exact .sl0 t u
  | rf0 t s u => exact .rf0 t s u
  | sl t u xs ys hu h2 hl hz h ih => exact .sl t u xs ys (fun e => hU (hu e)) (fun k hk => by obtain ⟨j, a, b⟩ := h2 k hk; exact ⟨j, a, ht _ _ b⟩) hl hz ih
  | rf t s n z es u ys hS hH hn hu h2 hl hz h ih => exact .rf t s n z es u ys hS hH hn (fun e => hU (hu e)) (fun k hk => ht _ _ (h2 k hk)) hl hz ih
  | ad t i o z es e e' hS hH he hu hz h ih => exact .ad t i o z es e e' hS hH he (hU hu) hz ih
  | pr e e' o hu hz h ih => exact .pr e e' o (hU hu) hz ih

theorem SC.dc {P : Program} {f : Nat} {args : List AV} {r : AV} (h : SC P f args r) : DC P f args r :=
  MC.mono h fun v H' n' ⟨ρ, h1, h2⟩ => ⟨ρ, h1, fun n => (h2 n).mono (fun _ _ h => h) (fun h => h.elim)⟩

/-- A value without memory. -/
inductive Flat : AV → Prop
  | b (x : Bool) : Flat (.b x)
  | i (k : IntKind) (m : Int) : Flat (.i k m)
  | s (x : ByteArray) : Flat (.s x)
  | tup (cs : List AV) (h : ∀ x ∈ cs, Flat x) : Flat (.tup cs)
  | agg (cs : List AV) (h : ∀ x ∈ cs, Flat x) : Flat (.agg cs)
  | nl : Flat .nl
  | fn (f : Nat) (cs : List AV) (h : ∀ x ∈ cs, Flat x) : Flat (.fn f cs)

theorem Flat.vw {H : Heap} {S : Nat → Prop} {T : Nat → Nat → Prop} {U : Prop} {x : AV} (h : Flat x) : Vw H S T U x x := by
  have aux : ∀ cs : List AV, (∀ x ∈ cs, Vw H S T U x x) → ∀ (j : Nat) (x y : AV), cs[j]? = some x → cs[j]? = some y → Vw H S T U x y := by
    intro cs h j x y hx hy
    rw [hx] at hy; cases hy
    exact h x (List.mem_of_getElem? hx)
  induction h with
  | b x => exact .b x
  | i k m => exact .i k m
  | s x => exact .s x
  | tup cs h ih => exact .tup cs cs rfl (aux cs ih)
  | agg cs h ih => exact .agg cs cs rfl (aux cs ih)
  | nl => exact .nl
  | fn f cs h ih => exact .fn f cs cs rfl (aux cs ih)

theorem Data.flat {r : AV} {U : Prop} {H : Heap} {n : Nat} (h : Flat r) : Data (fun _ => r) 0 U r H n := ⟨fun _ => 0, fun k k' h => by omega, fun n => h.vw⟩

/-- Data: slices and addresses lead to no own block. -/
inductive Dat : AV → Prop
  | b (x : Bool) : Dat (.b x)
  | i (k : IntKind) (m : Int) : Dat (.i k m)
  | s (x : ByteArray) : Dat (.s x)
  | tup (cs : List AV) (h : ∀ x ∈ cs, Dat x) : Dat (.tup cs)
  | agg (cs : List AV) (h : ∀ x ∈ cs, Dat x) : Dat (.agg cs)
  | nl : Dat .nl
  | fn (f : Nat) (cs : List AV) (h : ∀ x ∈ cs, Dat x) : Dat (.fn f cs)
  | sl (xs : List AV) (h : ∀ x ∈ xs, ∀ y ∈ x.cells, Dat y) : Dat (.sl none xs)

theorem Dat.vw {H : Heap} {S : Nat → Prop} {T : Nat → Nat → Prop} {x : AV} (h : Dat x) : Vw H S T True x x := by
  have aux : ∀ cs : List AV, (∀ x ∈ cs, Vw H S T True x x) → ∀ (j : Nat) (x y : AV), cs[j]? = some x → cs[j]? = some y → Vw H S T True x y := by
    intro cs h j x y hx hy
    rw [hx] at hy; cases hy
    exact h x (List.mem_of_getElem? hx)
  induction h with
  | b x => exact .b x
  | i k m => exact .i k m
  | s x => exact .s x
  | tup cs h ih => exact .tup cs cs rfl (aux cs ih)
  | agg cs h ih => exact .agg cs cs rfl (aux cs ih)
  | nl => exact .nl
  | fn f cs h ih => exact .fn f cs cs rfl (aux cs ih)
  | sl xs h ih =>
    refine .sl none none xs xs (fun _ => trivial) (fun k hk => by cases hk) rfl ?_ ?_
    · intro j x y hx hy; rw [hx] at hy; cases hy; rfl
    · intro j x y k p q hx hy hp hq
      rw [hx] at hy; cases hy
      rw [hp] at hq; cases hq
      exact ih x (List.mem_of_getElem? hx) p (List.mem_of_getElem? hp)

/-- A call on data, stated for the use in a walk: the arguments are data. -/
theorem awpC_dc {P : Program} {f : Nat} {args : List AV} {r : AV} (h : DC P f args r) (ha : ∀ x ∈ args, Dat x) {d : Option Nat} {fl : List Nat} {σ : St} {K : St → Prop} (hk : K ⟨σ.fr.put d r, σ.H, σ.n⟩) : awpC P false f args d fl σ K := by
  refine ⟨args, fun _ => r, 0, fun _ => False, True, h, ⟨rfl, fun j x y hx hy => ?_⟩, fun _ _ h => h, by simpa using hk⟩
  rw [hx] at hy; cases hy
  exact (ha x (List.mem_of_getElem? hx)).vw

end Go.Am
