/-
  A part of the proof that the law FnExactSameAdjustments holds (abstract machine, walks, or the join). No conditions.
-/
import Derived.Test.YtdghdngpeidmnaaAmCode
/-! A function's contract out of its body. -/
namespace Go.Am
set_option linter.unusedVariables false

/-- Where a result stands. -/
inductive AR where
  | t (n : Nat)
  | cell (s : Option Nat) (a : Nat)

def AR.get (σ : St) : AR → Option AV
  | .t n => some (σ.fr n)
  | .cell s a => match look σ.H (σ.fr a) with
    | some (e, o) => partOf s e.cells o
    | none => none

def AR.gets (σ : St) : List AR → Option (List AV)
  | [] => some []
  | r :: rs => match r.get σ, AR.gets σ rs with
    | some v, some vs => some (v :: vs)
    | _, _ => none

/-- One value, or a tuple. -/
def one : List AV → AV
  | [v] => v
  | vs => .tup vs

def cres1 (P : Program) : ResultVar → Option AR
  | .tmp t => some (.t t)
  | .cell a t => (ldOf P t).map fun s => .cell s a

def cress (P : Program) : List ResultVar → Option (List AR)
  | [] => some []
  | r :: rs => match cres1 P r, cress P rs with
    | some v, some vs => some (v :: vs)
    | _, _ => none

/-- A compiled function. -/
structure AF where
  n : Nat
  code : AC
  res : List AR

def compF (P : Program) (rw : Nat → Bool) (rv : Bool) (fn : Func) : Option AF :=
  match fn.body with
  | some c => if (fn.name == "runtime.NumGoroutine") = false then match comp P rw rv fn.ntmps c, cress P fn.results.toList with
      | some ac, some rs => some ⟨fn.ntmps, ac, rs⟩
      | _, _ => none
    else none
  | none => none

/-- The frame that a call begins with. -/
def frOf (args : List AV) : Fr := fun d => (args[d]?).getD .top

section
variable {P : Program} {rw : Nat → Bool} {rv : Bool} {E : Entry} {β : Bt} {N : Nat} {a : Act} {w : World} {σ : St}

def resM (tmps : Array Value) : ResultVar → Sem Value
  | .tmp t => pure (tmps.getD t undef)
  | .cell b t => do loadVar t (← asAddr (tmps.getD b undef))

theorem cres1_run (h : Sim E β N a w σ) {r : ResultVar} {ar : AR} (hc : cres1 P r = some ar) {v : AV} (hv : ar.get σ = some v) :
    ∃ u, (resM a.tmps r).run P w = .ok u w ∧ Rep β (okB E.X β σ.H) w u v := by
  cases r with
  | tmp t => cases hc; cases hv; exact ⟨_, rfl, h.fs t⟩
  | cell b t =>
    simp only [cres1] at hc
    obtain ⟨s, hs, rfl⟩ := map_some hc
    simp only [AR.get] at hv
    split at hv
    · rename_i e o hl
      obtain ⟨g, bs, hva, hcc⟩ := look_cells h.hs (h.fs b) hl
      obtain ⟨u, h1, h2⟩ := run_loadVar_rep (P := P) hs hcc hv
      exact ⟨u, by simp only [resM, Sem.run_bind, hva, asAddr, Sem.run_pure, Result.andThen_ok, h1], h2⟩
    · cases hv

theorem cress_run (h : Sim E β N a w σ) : ∀ {rs : List ResultVar} {ars : List AR}, cress P rs = some ars → ∀ {vs : List AV}, AR.gets σ ars = some vs →
    ∃ us : List Value, (rs.mapM (resM a.tmps)).run P w = Result.ok us w ∧ LRep β (okB E.X β σ.H) w us.toArray vs
  | [], ars, hc, vs, hv => by cases hc; cases hv; exact ⟨[], by simp, rfl, fun j y hj => by simp at hj⟩
  | r :: rs, ars, hc, vs, hv => by
    simp only [cress] at hc
    split at hc
    · rename_i ar ars' h1 h2
      cases hc
      simp only [AR.gets] at hv
      split at hv
      · rename_i v vs' g1 g2
        cases hv
        obtain ⟨u, k1, k2⟩ := cres1_run (P := P) h h1 g1
        obtain ⟨us, k3, k4⟩ := cress_run h h2 g2
        refine ⟨u :: us, ?_, by simpa using k4.1, fun j y hj => ?_⟩
        · simp only [List.mapM_cons, Sem.run_bind, k1, Result.andThen_ok, k3, Sem.run_pure]
        · cases j with
          | zero => simp at hj; subst hj; simpa using k2
          | succ j => simpa using k4.2 j y (by simpa using hj)
      · cases hv
    · cases hc

theorem results_run (h : Sim E β N a w σ) {fn : Func} {ars : List AR} (hc : cress P fn.results.toList = some ars) {vs : List AV} (hv : AR.gets σ ars = some vs) :
    ∃ u, (results fn a.tmps).run P w = .ok u w ∧ Rep β (okB E.X β σ.H) w u (one vs) := by
  obtain ⟨us, h1, h2, h3⟩ := cress_run (P := P) h hc hv
  have hr : (results fn a.tmps).run P w = .ok (if h : us.toArray.size = 1 then us.toArray[0] else .tuple us.toArray) w := by
    have e : results fn a.tmps = (do let vs ← fn.results.mapM (resM a.tmps); pure (if h : vs.size = 1 then vs[0] else .tuple vs)) := by
      unfold results
      congr 1
    rw [e, Sem.run_bind, Array.mapM_eq_mapM_toList, Sem.run_map, h1]
    rfl
  refine ⟨_, hr, ?_⟩
  by_cases hs : us.toArray.size = 1
  · rw [dif_pos hs]
    have hl : vs.length = 1 := by rw [← h2]; exact hs
    obtain ⟨v, rfl⟩ := List.length_eq_one_iff.1 hl
    have := h3 0 v rfl
    have h0 : 0 < us.length := by simp at hs; omega
    simpa [one, h0] using this
  · rw [dif_neg hs]
    have hl : vs.length ≠ 1 := by rw [← h2]; exact hs
    have : one vs = .tup vs := by
      unfold one
      split
      · simp at hl
      · rfl
    rw [this]
    exact .tup _ _ h2 h3
end

/-- THE CONTRACT OUT OF THE BODY. -/
theorem mc_of_awp {P : Program} {rw : Nat → Bool} {rv : Bool} {f : Nat} {fn : Func} {af : AF} (hf : P.funcs[f]? = some fn) (hc : compF P rw rv fn = some af) {args : List AV} {H : Heap} {n : Nat} {Q : AV → Heap → Nat → Prop} (hargs : args.length ≤ af.n)
    (hx : awp P af.code (fun e σ => match e with
      | .exit _ => False
      | _ => match AR.gets σ af.res with
        | some vs => Q (one vs) σ.H σ.n
        | none => False) ⟨frOf args, H, n⟩) : MC P f args H n Q := by
  unfold compF at hc
  split at hc
  · rename_i c hb
    split at hc
    · rename_i hname
      split at hc
      · rename_i ac rs hac hrs
        cases hc
        refine ⟨⟨fn, hf, by rw [hb]; rfl, hname⟩, fun X β w cargs hs hr => ?_⟩
        refine calls_of_wp hf hb ?_
        have hsim : Sim ⟨X, β, H, n, w⟩ β fn.ntmps { tmps := cargs ++ Array.replicate (fn.ntmps - cargs.size) undef, defers := [] } w ⟨frOf args, H, n⟩ := by
          refine ⟨hs, fun d => ?_, ?_, rfl, ?_⟩
          · show Rep β (okB X β H) w ((cargs ++ Array.replicate (fn.ntmps - cargs.size) undef).getD d undef) (frOf args d)
            unfold frOf
            cases hd : args[d]? with
            | none => exact .top _
            | some y =>
              have hlt : d < cargs.size := by rw [hr.1]; exact (List.getElem?_eq_some_iff.1 hd).1
              have := hr.2 d y hd
              rw [Array.getElem?_eq_getElem hlt] at this
              have hlt2 : d < (cargs ++ Array.replicate (fn.ntmps - cargs.size) undef).size := by simp; omega
              simp only [Array.getD, hlt2, dif_pos, Option.getD_some]
              have he : (cargs ++ Array.replicate (fn.ntmps - cargs.size) undef)[d] = cargs[d] := Array.getElem_append_left hlt
              simpa [he] using this
          · have := hr.1
            simp only at hargs
            simp; omega
          · refine ⟨Nat.le_refl _, rfl, rfl, rfl, Nat.le_refl _, fun t p hp => ⟨p, hp, rfl, rfl, rfl⟩, fun t p hp _ => hp, fun g _ _ => rfl, fun t es _ hes => by simp only at hes ⊢; rw [hes]; rfl, ?_, fun t p _ hp => by simp only at hp ⊢; rw [hp]; rfl, hs.lt⟩
            intro t p ht hp
            have := hs.lt t p hp
            simp only at ht
            omega
        refine wp_mono (comp_sound hac hsim hx) ?_
        rintro e a' w' ⟨e', β', σ', he, hs', hq⟩
        have fin : ∀ (_ : match AR.gets σ' rs with | some vs => Q (one vs) σ'.H σ'.n | none => False), a'.defers = [] ∧ ∃ v, (results fn a'.tmps).run P w' = .ok v w' ∧
            ∃ cv v' β' H' n', Ending.returned v = .returned cv ∧ Q v' H' n' ∧ HSim X β' w' H' n' ∧ Rep β' (okB X β' H') w' cv v' ∧ Ctx ⟨X, β, H, n, w⟩ β' w' H' n' := by
          intro hq
          split at hq
          · rename_i vs hvs
            obtain ⟨u, h1, h2⟩ := results_run (P := P) hs' hrs hvs
            exact ⟨hs'.df, u, h1, u, one vs, β', σ'.H, σ'.n, rfl, hq, hs'.hs, h2, hs'.cx⟩
          · exact hq.elim
        cases e <;> simp only [AEx.of] at he <;> cases he
        · exact fin hq
        · exact hq.elim
        · exact fin hq
      · cases hc
    · cases hc
  · cases hc

end Go.Am
