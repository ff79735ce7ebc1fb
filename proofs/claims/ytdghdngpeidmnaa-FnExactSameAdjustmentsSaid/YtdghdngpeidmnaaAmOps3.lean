/-
  A part of the proof that the law FnExactSameAdjustments holds (abstract machine, walks, or the join). No conditions.
-/
import Derived.Test.YtdghdngpeidmnaaAmOps2
/-! Operators and slice expressions. -/
namespace Go.Am
set_option linter.unusedVariables false
set_option linter.unusedSimpArgs false

section ops
variable {P : Program} {E : Entry} {β : Bt} {N : Nat} {a : Act} {w : World} {σ : St} {tok : Nat} {x : AV} {H' : Heap} {o : Oper}

theorem run_eqGuard_plain (op : BinOp) (t : TypeId) (y z : Operand) (u v : Value) (h : (∀ cs, u ≠ .agg cs) ∧ u ≠ .nilIface) : eqGuard op t y z u v = pure () := by
  obtain ⟨h1, h2⟩ := h
  cases op <;> cases u <;> simp_all [eqGuard] <;> rfl

theorem r_quo (k : IntKind) (m n : Int) (hn : n ≠ 0) : (Op.intDiv .quo k m n).run P w = .ok (.int k (k.wrap (m.tdiv n))) w := by simp [Op.intDiv, hn]
theorem r_rem (k : IntKind) (m n : Int) (hn : n ≠ 0) : (Op.intDiv .rem k m n).run P w = .ok (.int k (m.tmod n)) w := by simp [Op.intDiv, hn]
theorem r_shr (k k' : IntKind) (m n : Int) (hn : ¬ n < 0) : (Op.shift .shr k m k' n).run P w = .ok (.int k (m.fdiv (2 ^ min n.toNat k.bits))) w := by simp [Op.shift, hn]
theorem r_and (k : IntKind) (m n : Int) : (Op.intBits .and k m n).run P w = .ok (.int k (k.wrap (BitVec.ofInt k.bits m &&& BitVec.ofInt k.bits n).toNat)) w := rfl
theorem r_or (k : IntKind) (m n : Int) : (Op.intBits .or k m n).run P w = .ok (.int k (k.wrap (BitVec.ofInt k.bits m ||| BitVec.ofInt k.bits n).toNat)) w := rfl
theorem r_xor (k : IntKind) (m n : Int) : (Op.intBits .xor k m n).run P w = .ok (.int k (k.wrap (BitVec.ofInt k.bits m ^^^ BitVec.ofInt k.bits n).toNat)) w := rfl

theorem op_bin (h : Sim E β N a w σ) {op : BinOp} {t t2 : TypeId} {y z : Operand} {y' z' : AO} (ho : o.op = .binOp op t y z t2) (hy : copd y = some y') (hz : copd z = some z')
    (hb : binop op (y'.ev σ.fr) (z'.ev σ.fr) = some x) : Res E β w σ tok ((execOp a.eval o).run P w) x σ.H := by
  have hry := opd_rep h hy
  have hrz := opd_rep h hz
  generalize y'.ev σ.fr = p at hb hry
  generalize z'.ev σ.fr = q at hb hrz
  unfold binop at hb
  split at hb
  · rename_i k m k' n
    have h1 := hry.i_inv
    have h2 := hrz.i_inv
    have hg : ∀ v, eqGuard op t y z (.int k m) v = pure () := fun v => run_eqGuard_plain op t y z _ v (by simp)
    cases op <;> simp only [] at hb <;> first
      | (cases hb; done)
      | (split at hb <;> first | (cases hb; done) | skip)
    all_goals (cases hb)
    all_goals (try obtain ⟨rfl, hne⟩ := ‹_ = _ ∧ _›)
    all_goals (try subst k')
    all_goals first
      | (refine res_pure h ?_ (.b _); simp [execOp, ho, hg, h1, h2, binOp, Op.intCmp]; done)
      | (refine res_pure h ?_ (.i _ _); simp [execOp, ho, hg, h1, h2, binOp, Op.intArith]; done)
      | (refine res_pure h ?_ (.i _ _); simp [execOp, ho, hg, h1, h2, binOp, r_quo (P := P) (w := w) k m n hne]; done)
      | (refine res_pure h ?_ (.i _ _); simp [execOp, ho, hg, h1, h2, binOp, r_rem (P := P) (w := w) k m n hne]; done)
      | (refine res_pure h ?_ (.i _ _); simp only [execOp, ho, hg, h1, h2, binOp, Sem.run_bind, Sem.run_pure, Result.andThen_ok, r_and (P := P) (w := w) k m n, if_false, ne_eq, not_true]; done)
      | (refine res_pure h ?_ (.i _ _); simp only [execOp, ho, hg, h1, h2, binOp, Sem.run_bind, Sem.run_pure, Result.andThen_ok, r_or (P := P) (w := w) k m n, if_false, ne_eq, not_true]; done)
      | (refine res_pure h ?_ (.i _ _); simp only [execOp, ho, hg, h1, h2, binOp, Sem.run_bind, Sem.run_pure, Result.andThen_ok, r_xor (P := P) (w := w) k m n, if_false, ne_eq, not_true]; done)
      | (refine res_pure h ?_ (.i _ _); simp only [execOp, ho, hg, h1, h2, binOp, Sem.run_bind, Sem.run_pure, Result.andThen_ok, r_shr (P := P) (w := w) k k' m n ‹¬ _ < _›]; done)
  · rename_i m n
    have h1 := hry.s_inv
    have h2 := hrz.s_inv
    have hg : ∀ v, eqGuard op t y z (.string m) v = pure () := fun v => run_eqGuard_plain op t y z _ v (by simp)
    cases op <;> simp only [] at hb <;> first | (cases hb; done) | skip
    all_goals (cases hb)
    all_goals exact res_pure h (by simp [execOp, ho, hg, h1, h2, binOp, Op.stringOp]) (.b _)
  · cases hb

theorem op_beq (h : Sim E β N a w σ) {ne : Bool} {t t2 : TypeId} {y z : Operand} {y' z' : AO} (ho : o.op = .binOp (if ne then .neq else .eql) t y z t2) (ht : isBoolT P t = true) (hy : copd y = some y') (hz : copd z = some z')
    {p q : Bool} (hp : y'.ev σ.fr = .b p) (hq : z'.ev σ.fr = .b q) : Res E β w σ tok ((execOp a.eval o).run P w) (.b (if ne then !(p == q) else p == q)) σ.H := by
  have h1 := (hp ▸ opd_rep h hy : Rep _ _ _ _ (.b p)).b_inv
  have h2 := (hq ▸ opd_rep h hz : Rep _ _ _ _ (.b q)).b_inv
  have hu : P.underlying t = some .bool := by
    unfold isBoolT at ht
    split at ht
    · assumption
    · cases ht
  have hg : ∀ op v, eqGuard op t y z (.bool p) v = pure () := fun op v => run_eqGuard_plain op t y z _ v (by simp)
  have he : (Op.equal t (.bool p) (.bool q)).run P w = .ok (p == q) w := by
    show (Op.equalIn (9999 + 1) t (.bool p) (.bool q)).run P w = _
    unfold Op.equalIn
    simp [run_underlying hu]
  cases ne
  · exact res_pure h (by simp at ho; simp [execOp, ho, hg, h1, h2, binOp, he]) (.b _)
  · exact res_pure h (by simp at ho; simp [execOp, ho, hg, h1, h2, binOp, he]) (.b _)

theorem bound_run {v : Value} {y : AV} {m d r : Nat} {ok : Nat → Prop} {code : BoundsCode} (hb : bound m d (some y) = some r) (hv : Rep β ok w v y) :
    (Instr.sliceBound v m code).run P w = .ok r w ∧ r ≤ m := by
  unfold bound at hb
  split at hb
  · rename_i h; cases h
  · rename_i h
    cases h
    split at hb
    · rename_i hc
      cases hb
      have h1 := hv.i_inv
      have : (0 : Int) ≤ _ := hc.1
      refine ⟨by simp [Instr.sliceBound, h1, asIntOf, hc.1, hc.2], by omega⟩
    · cases hb
  · cases hb

theorem bounds_run {n cp : Nat} {lo hi : Option Value} {lo' hi' : Option AV} {ok : Nat → Prop} {hh l : Nat} (h1 : bound n n hi' = some hh) (h2 : bound hh 0 lo' = some l) (hn : n ≤ cp)
    (r1 : ∀ v, hi = some v → ∃ y, hi' = some y ∧ Rep β ok w v y) (n1 : hi = none → hi' = none) (r2 : ∀ v, lo = some v → ∃ y, lo' = some y ∧ Rep β ok w v y) (n2 : lo = none → lo' = none) :
    (Instr.sliceBounds true n cp lo hi none).run P w = .ok (l, hh, cp) w ∧ l ≤ hh ∧ hh ≤ n := by
  have hbnd : ∀ {v : Value} {y : AV} {m d r m' : Nat}, bound m d (some y) = some r → Rep β ok w v y → m ≤ m' → ∀ code, (Instr.sliceBound v m' code).run P w = .ok r w ∧ r ≤ m := by
    intro v y m d r m' hb hv hm code
    unfold bound at hb
    split at hb
    · rename_i h; cases h
    · rename_i h
      cases h
      split at hb
      · rename_i hc
        cases hb
        have h1 := hv.i_inv
        have h3 : (_ : Int) ≤ (m' : Int) := Int.le_trans hc.2 (by omega)
        refine ⟨by simp [Instr.sliceBound, h1, asIntOf, hc.1, h3], by have := hc.2; omega⟩
      · cases hb
    · cases hb
  have hH : ∃ hv, (match hi with | some v => Instr.sliceBound v cp (if true = true then BoundsCode.sliceAcap else .sliceAlen) | none => (pure n : Sem Nat)).run P w = .ok hh w ∧ hh ≤ n ∧ hv = hh := by
    cases hi with
    | none =>
      have := n1 rfl; subst this
      simp [bound] at h1; subst h1
      exact ⟨_, rfl, Nat.le_refl _, rfl⟩
    | some v =>
      obtain ⟨y, rfl, hv⟩ := r1 v rfl
      have := hbnd h1 hv hn .sliceAcap
      exact ⟨_, this.1, this.2, rfl⟩
  obtain ⟨_, hH1, hH2, _⟩ := hH
  have hL : (match lo with | some v => Instr.sliceBound v hh (if (none : Option Value).isSome = true then BoundsCode.slice3C else .sliceB) | none => (pure 0 : Sem Nat)).run P w = .ok l w ∧ l ≤ hh := by
    cases lo with
    | none =>
      have := n2 rfl; subst this
      simp [bound] at h2; subst h2
      exact ⟨rfl, Nat.zero_le _⟩
    | some v =>
      obtain ⟨y, rfl, hv⟩ := r2 v rfl
      exact hbnd h2 hv (Nat.le_refl _) .sliceB
  refine ⟨?_, hL.2, hH2⟩
  cases hi <;> cases lo <;> simp_all [Instr.sliceBounds]

theorem copdo_rep (h : Sim E β N a w σ) {z : Option Operand} {z' : Option AO} (hc : copdo z = some z') :
    (∀ v, z.map a.eval = some v → ∃ y, z'.map (·.ev σ.fr) = some y ∧ Rep β (okB E.X β σ.H) w v y) ∧ (z.map a.eval = none → z'.map (·.ev σ.fr) = none) := by
  cases z with
  | none => cases hc; exact ⟨(fun v hv => by cases hv), fun _ => rfl⟩
  | some q =>
    simp only [copdo] at hc
    cases hq : copd q with
    | none => rw [hq] at hc; cases hc
    | some r => rw [hq] at hc; cases hc; exact ⟨(fun v hv => by cases hv; exact ⟨_, rfl, opd_rep h hq⟩), (fun hv => by cases hv)⟩

theorem op_slc (h : Sim E β N a w σ) {t e : TypeId} {y : Operand} {y' : AO} {lo hi : Option Operand} {lo' hi' : Option AO} (ho : o.op = .slice t y lo hi none) (ht : P.underlying t = some (.slice e))
    {b : Bool} {s : Nat} (hs : tyOf P e = some (b, s)) (hy : copd y = some y') (hlo : copdo lo = some lo') (hhi : copdo hi = some hi')
    (hr : (AOp.slc s y' lo' hi').run σ.fr σ.H tok = some (x, H')) : Res E β w σ tok ((execOp a.eval o).run P w) x H' := by
  have hv := opd_rep h hy
  obtain ⟨l1, l2⟩ := copdo_rep h hlo
  obtain ⟨h1, h2⟩ := copdo_rep h hhi
  have run : ∀ (ad : Option Addr) (n cp l hh : Nat), a.eval y = .slice ad n cp → (Instr.sliceBounds true n cp (lo.map a.eval) (hi.map a.eval) none).run P w = .ok (l, hh, cp) w →
      (execOp a.eval o).run P w = .ok (.value (.slice (if cp = l then ad else ad.map (·.add (l * s))) (hh - l) (cp - l))) w := by
    intro ad n cp l hh hva hb
    simp [execOp, ho, Instr.sliceAt, Instr.slice, run_underlying ht, hva, hb, run_sizeOf_ty hs]
  simp only [AOp.run] at hr
  split at hr
  · rename_i hyv
    split at hr
    · rename_i hh hb1
      split at hr
      · rename_i l hb2
        cases hr
        have hn := (hyv ▸ hv : Rep _ _ _ _ .nl).nl_inv
        obtain ⟨hb, hl1, hl2⟩ := bounds_run (P := P) (w := w) hb1 hb2 (Nat.le_refl 0) h1 h2 l1 l2
        obtain rfl : hh = 0 := by omega
        obtain rfl : l = 0 := by omega
        exact res_pure h (run _ _ _ _ _ hn hb) (by simpa using Rep.nl)
      · cases hr
    · cases hr
  · rename_i tg xs hyv
    split at hr
    · rename_i hh hb1
      split at hr
      · rename_i l hb2
        split at hr
        · rename_i hall
          cases hr
          obtain ⟨ad, c, hn, hc, hx⟩ := (hyv ▸ hv : Rep _ _ _ _ (.sl tg xs)).sl_inv
          obtain ⟨hb, hl1, hl2⟩ := bounds_run (P := P) (w := w) hb1 hb2 hc h1 h2 l1 l2
          have hlen : ((xs.take hh).drop l).length = hh - l := by simp; omega
          refine res_pure h (run _ _ _ _ _ hn hb) ?_
          by_cases h0 : hh - l = 0
          · have : (xs.take hh).drop l = [] := List.length_eq_zero_iff.1 (by omega)
            rw [this, h0]; exact .sl0 _ _ _
          · have hxne : xs ≠ [] := by intro e; subst e; simp at hl2; omega
            obtain ⟨g, of, sz, cv, rfl, hg, hgl, htg, hss, hm, hrr⟩ := hx hxne
            have hget : ∀ i z, ((xs.take hh).drop l)[i]? = some z → xs[l + i]? = some z := by
              intro i z hz
              rw [List.getElem?_drop, List.getElem?_take] at hz
              split at hz
              · exact hz
              · cases hz
            have hsz : sz = s := by
              have h00 : 0 < ((xs.take hh).drop l).length := by omega
              have h01 := hget 0 _ (List.getElem?_eq_getElem h00)
              have h02 := hss _ _ h01
              have h03 := (List.all_eq_true.1 hall) _ (List.getElem_mem h00)
              simp only [beq_iff_eq] at h03
              omega
            subst hsz
            have hne : c ≠ l := by omega
            rw [if_neg hne, ← hlen]
            simp only [Option.map_some, Addr.add_lit]
            refine .sl g (of + l * sz) (c - l) sz tg _ (fun i j => cv (l + i) j) (by omega) hg hgl htg (fun i z hz => hss _ _ (hget i z hz)) ?_ (fun i z j q hz hq => hrr _ _ _ _ (hget i z hz) hq)
            intro i z j hz hj
            rw [← hm _ _ _ (hget i z hz) hj]
            congr 2
            rw [Nat.add_mul]; omega
        · cases hr
      · cases hr
    · cases hr
  · rename_i u st m hyv
    split at hr
    · rename_i zz es hes
      split at hr
      · rename_i hall
        split at hr
        · rename_i hh hb1
          split at hr
          · rename_i l hb2
            cases hr
            obtain ⟨p, ad, c, hp, hn, ha, hc, h0⟩ := (hyv ▸ hv : Rep _ _ _ _ (.rf u st m)).rf_inv
            obtain ⟨hb, hl1, hl2⟩ := bounds_run (P := P) (w := w) hb1 hb2 hc h1 h2 l1 l2
            refine res_pure h (run _ _ _ _ _ hn hb) ?_
            refine .rf u (st + l) (hh - l) _ _ p hp ?_ (by omega) ?_
            · intro hcase
              by_cases hz : hh - l = 0
              · have hst : st + l = 0 := by rcases hcase with h | h <;> omega
                obtain rfl : st = 0 := by omega
                obtain rfl : l = 0 := by omega
                have had := ha (.inr rfl)
                subst had
                split <;> simp [Addr.add_lit]
              · have hm0 : m ≠ 0 := by omega
                have had := ha (.inl hm0)
                subst had
                rw [if_neg (by omega)]
                simp only [Option.map_some, Addr.add_lit]
                obtain ⟨p', hp', _, hz', _, hxx⟩ := h.hs.dom _ _ hes
                rw [hp] at hp'; cases hp'
                have hsz : p.sz = s := hz'.trans hall.2
                rw [hsz, Nat.add_mul]
            · intro hst
              have := h0 (by omega)
              omega
          · cases hr
        · cases hr
      · cases hr
    · cases hr
  · cases hr

end ops
end Go.Am
