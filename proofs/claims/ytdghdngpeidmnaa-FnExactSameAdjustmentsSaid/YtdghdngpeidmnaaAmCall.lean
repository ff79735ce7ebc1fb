/-
  A part of the proof that the law FnExactSameAdjustments holds (abstract machine, walks, or the join). No conditions.
-/
import Derived.Test.YtdghdngpeidmnaaAmPure
/-! One instruction of a region. -/
namespace Go.Am
set_option linter.unusedVariables false

/-- What an address or a slice leads to has been kept. -/
def tokKept (H H' : Heap) : AV → Prop
  | .ad t _ _ => ∀ b, H t = some b → H' t = some b
  | .rf t _ _ => ∀ b, H t = some b → H' t = some b
  | _ => True

/-- A call. -/
def awpC (P : Program) (raw : Bool) (f : Nat) (args : List AV) (d : Option Nat) (fl : List Nat) (σ : St) (K : St → Prop) : Prop :=
  match raw with
  | false => ∃ args' R c S U, PC P f args' R c U ∧ Vws σ.H S args args' ∧ (U → ∀ t, ¬ S t) ∧ K ⟨σ.fr.put d (R σ.n), σ.H, σ.n + c⟩
  | true => MC P f args σ.H σ.n fun v H' n' => (∀ s ∈ fl, tokKept σ.H H' (σ.fr s)) ∧ K ⟨σ.fr.put d v, H', n'⟩

theorem awpC_mc {P : Program} {raw : Bool} {f : Nat} {args : List AV} {d : Option Nat} {fl : List Nat} {σ : St} {K : St → Prop} (h : awpC P raw f args d fl σ K) :
    MC P f args σ.H σ.n fun v H' n' => K ⟨σ.fr.put d v, H', n'⟩ := by
  cases raw with
  | false =>
    obtain ⟨args', R, c, S, U, h1, h2, h3, h4⟩ := h
    exact (pcall h1 h2 h3).mono fun v H' n' ⟨e1, e2, e3⟩ => by subst e1 e2 e3; exact h4
  | true => exact MC.mono h fun v H' n' hq => hq.2

/-- One instruction. -/
def awpX (P : Program) (ins : AI) (tok : Nat) (σ : St) (K : St → Prop) : Prop :=
  match ins.op with
  | .call raw f args => awpC P raw f (args.map (·.ev σ.fr)) ins.d ins.fl σ K
  | .callv raw t args => match σ.fr t with
    | .fn g caps => awpC P raw g (args.map (·.ev σ.fr) ++ caps) ins.d ins.fl σ K
    | _ => False
  | op => match op.run σ.fr σ.H tok with
    | some (v, H') => (∀ s ∈ ins.fl, tokKept σ.H H' (σ.fr s)) ∧ K ⟨σ.fr.put ins.d v, H', σ.n⟩
    | none => False

def awpI (P : Program) (ins : AI) (tok : Nat) (σ : St) (K : St → Prop) : Prop :=
  match ins.g with
  | none => awpX P ins tok σ K
  | some (s, want) => match σ.fr s with
    | .b x => if x = want then awpX P ins tok σ K else K ⟨σ.fr.put ins.d .top, σ.H, σ.n⟩
    | _ => False

/-- The instructions of a region, one after the other; `tok` is the token of the first. -/
def awpOps (P : Program) : List AI → Nat → St → (St → Prop) → Prop
  | [], _, σ, K => K σ
  | i :: r, tok, σ, K => awpI P i tok σ fun σ' => awpOps P r (tok + 1) σ' K

section
variable {P : Program} {rw : Nat → Bool} {rv : Bool} {E : Entry} {β : Bt} {N : Nat} {a : Act} {w : World} {σ : St} {tok : Nat} {o : Oper} {ops : Array Oper}

/-- Tokens that are yet to be given. -/
def Free (β : Bt) (F : Nat → Prop) (n : Nat) : Prop := ∀ t, F t → β t = none ∧ t < n

theorem callArgs_rep (h : Sim E β N a w σ) {xs : Array Operand} {ys : List AO} (hc : copds xs.toList = some ys) : LRep β (okB E.X β σ.H) w (xs.map a.eval) (ys.map (·.ev σ.fr)) := by
  obtain ⟨hl, hy⟩ := opds_rep h hc
  refine ⟨by simpa using hl, fun j y hj => ?_⟩
  simp only [List.getElem?_map, Option.map_eq_some_iff] at hj
  obtain ⟨z, hz, rfl⟩ := hj
  obtain ⟨u, hu, hr⟩ := hy j z hz
  simp at hu
  simpa [hu] using hr

theorem LRep.append {β : Bt} {ok : Nat → Prop} {w : World} {us vs : Array Value} {cs ds : List AV} (h1 : LRep β ok w us cs) (h2 : LRep β ok w vs ds) : LRep β ok w (us ++ vs) (cs ++ ds) := by
  refine ⟨by simp [h1.1, h2.1], fun j y hj => ?_⟩
  by_cases hl : j < cs.length
  · rw [List.getElem?_append_left hl] at hj
    rw [Array.getElem?_append_left (by rw [h1.1]; exact hl)]
    exact h1.2 j y hj
  · rw [List.getElem?_append_right (by omega)] at hj
    rw [Array.getElem?_append_right (by rw [h1.1]; omega), h1.1]
    exact h2.2 _ y hj

theorem run_callFunc {f : Nat} {fn : Func} (hf : P.funcs[f]? = some fn) (hb : fn.body.isSome = true) (hn : (fn.name == "runtime.NumGoroutine") = false) (args : Array Value) (w : World) : (callFunc f args).run P w = .ok (.enter f args) w := by
  have hb' : ¬ fn.body.isNone = true := by cases h : fn.body <;> simp_all
  have hn' : ¬ (fn.name == "runtime.NumGoroutine") = true := by rw [hn]; simp
  simp only [callFunc, Sem.run_bind, run_program, Result.andThen_ok, hf]
  rw [if_neg hn', if_neg hb']
  rfl

/-- A call of a known function. -/
theorem call_sound (h : Sim E β N a w σ) {cargs : Array Value} {f : Nat} {args : List AV} (he : (execOp a.eval o).run P w = .ok (.enter f cargs) w) (hr : LRep β (okB E.X β σ.H) w cargs args) {d : Option Nat} (hd : ∀ k, d = some k → k < N)
    (hdst : o.dst = d) {K : St → Prop} (hm : MC P f args σ.H σ.n fun v H' n' => K ⟨σ.fr.put d v, H', n'⟩) {F : Nat → Prop} (hfree : Free β F σ.n) {next : Act → World → Prop} {Q : Exit → Act → World → Prop}
    (hK : ∀ β' a' w' σ', Sim E β' N a' w' σ' → Free β' F σ'.n → K σ' → next a' w') : o.wp P a w next Q := by
  unfold Oper.wp
  rw [he]
  simp only [Oper.upon]
  refine Calls.mono (hm.2 E.X β w cargs h.hs hr) ?_
  rintro e w' ⟨cv, v, β', H', n', rfl, hq, h1, h2, h3⟩
  simp only
  rw [hdst]
  refine hK β' _ w' _ (h.put h1 (Ctx.stp h.hs h3) (h.cx.trans h3) hd h2) ?_ hq
  intro t ht
  obtain ⟨f1, f2⟩ := hfree t ht
  refine ⟨?_, Nat.lt_of_lt_of_le f2 h3.le⟩
  cases hb : β' t with
  | none => rfl
  | some p =>
    have := h3.back t p f2 hb
    simp only at this
    rw [f1] at this; cases this

theorem cop1_call {op : Op} {raw : Bool} {f : Nat} {args : List AO} (hc : cop1 P rw rv op = some (.call raw f args)) : ∃ c, op = .call c ∧ c.callee = .value (.func f) ∧ copds c.args.toList = some args := by
  unfold cop1 at hc
  repeat' split at hc
  all_goals first
    | (cases hc; done)
    | (obtain ⟨_, _, hh⟩ := map_some hc; cases hh; done)
    | skip
  rename_i c _ f' hcal
  obtain ⟨ys, hy, hh⟩ := map_some hc
  cases hh
  exact ⟨c, rfl, hcal, hy⟩

theorem cop1_callv {op : Op} {raw : Bool} {t : Nat} {args : List AO} (hc : cop1 P rw rv op = some (.callv raw t args)) : ∃ c, op = .call c ∧ c.callee = .value (.tmp t) ∧ copds c.args.toList = some args := by
  unfold cop1 at hc
  repeat' split at hc
  all_goals first
    | (cases hc; done)
    | (obtain ⟨_, _, hh⟩ := map_some hc; cases hh; done)
    | skip
  rename_i c _ t hcal
  obtain ⟨ys, hy, hh⟩ := map_some hc
  cases hh
  exact ⟨c, rfl, hcal, hy⟩

/-- One instruction is sound. -/
theorem awpX_sound (h : Sim E β N a w σ) {aop : AOp} (hc : cop1 P rw rv o.op = some aop) {d : Option Nat} (hdst : o.dst = d) (hd : ∀ k, d = some k → k < N) {F : Nat → Prop} (hfree : Free β F σ.n) (hF : F tok) (hE : E.n ≤ tok)
    {g : Option (Nat × Bool)} {fl : List Nat} {K : St → Prop} (hx : awpX P ⟨d, aop, g, fl⟩ tok σ K) {next : Act → World → Prop} {Q : Exit → Act → World → Prop}
    (hK : ∀ β' a' w' σ', Sim E β' N a' w' σ' → Free β' (fun t => F t ∧ t ≠ tok) σ'.n → K σ' → next a' w') : o.wp P a w next Q := by
  have hfree1 : Free β (fun t => F t ∧ t ≠ tok) σ.n := fun t h => hfree t h.1
  unfold awpX at hx
  split at hx
  · rename_i raw f args heq
    simp only at heq; subst heq
    obtain ⟨c, ho, hcal, hargs⟩ := cop1_call hc
    have hm := awpC_mc hx
    obtain ⟨fn, hf, hb, hn⟩ := hm.1
    refine call_sound h (cargs := c.args.map a.eval) ?_ (callArgs_rep h hargs) hd hdst hm hfree1 hK
    simp only [execOp, ho, Sem.run_bind, resolve, hcal, Act.eval, Deferred.ofValue, Sem.run_pure, Result.andThen_ok, invoke]
    rw [run_callFunc hf hb hn]
    simp
  · rename_i raw t args heq
    simp only at heq; subst heq
    obtain ⟨c, ho, hcal, hargs⟩ := cop1_callv hc
    split at hx
    · rename_i g' caps hv
      obtain ⟨vs, hvv, hl, hcr⟩ := (hv ▸ h.fs t : Rep _ _ _ _ (.fn g' caps)).fn_inv
      have hm := awpC_mc hx
      obtain ⟨fn, hf, hb, hn⟩ := hm.1
      refine call_sound h (cargs := c.args.map a.eval ++ vs) ?_ ((callArgs_rep h hargs).append ⟨hl, hcr⟩) hd hdst hm hfree1 hK
      have he : a.eval (.tmp t) = .func (.func g') #[] vs := hvv
      simp only [execOp, ho, Sem.run_bind, resolve, hcal, he, Deferred.ofValue, Sem.run_pure, Result.andThen_ok, invoke]
      rw [run_callFunc hf hb hn]
      simp
    · exact hx.elim
  · rename_i hn1 hn2
    split at hx
    · rename_i v H' hr
      obtain ⟨nx, u, w', β', q1, q2, q3, q4, q5, q6, q7⟩ := op_sound h (hfree tok hF).1 (hfree tok hF).2 hE hc hr
      unfold Oper.wp
      rw [q1]
      have hs := h.put q3 q4 q5 hd q6
      have hfr : Free β' (fun t => F t ∧ t ≠ tok) σ.n := fun t h => ⟨q7 t h.2 (hfree t h.1).1, (hfree t h.1).2⟩
      rcases q2 with rfl | ⟨rfl, rfl⟩
      · simp only [Oper.upon]
        rw [hdst]; exact hK _ _ _ _ hs hfr hx.2
      · simp only [Oper.upon]
        rw [hdst]; exact hK _ _ _ _ hs hfr hx.2
    · exact hx.elim

/-- One instruction with its guard. -/
theorem awpI_sound (h : Sim E β N a w σ) {i : Nat} (hi0 : ops[i]? = some o) {ins ins0 : AI} (hc : cop P rw rv N ops o = some ins0) (hins : ins.d = ins0.d ∧ ins.op = ins0.op ∧ ins.g = ins0.g) {F : Nat → Prop} (hfree : Free β F σ.n) (hF : F tok) (hE : E.n ≤ tok)
    {K : St → Prop} (hx : awpI P ins tok σ K) {next : Act → World → Prop} {Q : Exit → Act → World → Prop}
    (hK : ∀ β' a' w' σ', Sim E β' N a' w' σ' → Free β' (fun t => F t ∧ t ≠ tok) σ'.n → K σ' → next a' w') : wpOp P ops Q i next a w := by
  have hfree1 : Free β (fun t => F t ∧ t ≠ tok) σ.n := fun t h => hfree t h.1
  obtain ⟨d, op, g, fl⟩ := ins
  obtain ⟨e1, e2, e3⟩ := hins
  simp only at e1 e2 e3
  subst e1 e2 e3
  unfold cop at hc
  split at hc
  · cases hc
  · rename_i aop hop
    split at hc
    · rename_i hdN
      have hd : ∀ k, o.dst = some k → k < N := by
        intro k hk
        rw [hk] at hdN
        simpa [dstOk] using hdN
      unfold wpOp
      rw [hi0]
      simp only
      split at hc
      · rename_i hg
        cases hc
        rw [if_pos (by simp [Region.wanted, hg])]
        exact .inl (awpX_sound h hop rfl hd hfree hF hE hx hK)
      · rename_i j b hg
        split at hc
        · rename_i s hs
          cases hc
          simp only [awpI] at hx
          split at hx
          · rename_i q hq
            have hv := (hq ▸ h.fs s : Rep _ _ _ _ (.b q)).b_inv
            have hy : yielded ops a.tmps j = some q := by
              unfold yielded
              rw [hs]
              have : a.tmps[s]? = some (.bool q) := by
                cases ht : a.tmps[s]? with
                | none =>
                  have hsz : a.tmps.size ≤ s := by simpa using ht
                  simp [Array.getD, Nat.not_lt.2 hsz, undef] at hv
                | some u =>
                  have hlt' := (Array.getElem?_eq_some_iff.1 ht).1
                  simp [Array.getD, hlt'] at hv
                  rw [Array.getElem?_eq_getElem hlt'] at ht
                  rw [hv] at ht; exact ht.symm
              simp [this]
            by_cases hqb : q = b
            · rw [if_pos hqb] at hx
              rw [if_pos (by simp [Region.wanted, hg, hy, hqb])]
              exact .inl (awpX_sound h hop rfl hd hfree hF hE hx hK)
            · rw [if_neg hqb] at hx
              rw [if_neg (by simp [Region.wanted, hg, hy, hqb])]
              refine hK β _ w _ (h.put h.hs (Stp.refl _ _ _) h.cx hd (.top _)) hfree1 hx
          · exact hx.elim
        · cases hc
    · cases hc
end

end Go.Am
