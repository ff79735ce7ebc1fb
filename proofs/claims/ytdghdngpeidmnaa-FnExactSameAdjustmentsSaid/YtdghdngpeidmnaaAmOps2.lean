/-
  A part of the proof that the law FnExactSameAdjustments holds (abstract machine, walks, or the join). No conditions.
-/
import Derived.Test.YtdghdngpeidmnaaAmOps
/-! More operations that leave memory alone. -/
namespace Go.Am
set_option linter.unusedVariables false
set_option linter.unusedSimpArgs false

section ops
variable {P : Program} {E : Entry} {β : Bt} {N : Nat} {a : Act} {w : World} {σ : St} {tok : Nat} {x : AV} {H' : Heap} {o : Oper}

theorem op_nck (h : Sim E β N a w σ) {y : Operand} {y' : AO} (ho : o.op = .nilCheck y) (hy : copd y = some y') (hx : (∃ e k, y'.ev σ.fr = .pr e k) ∨ ∃ t i k, y'.ev σ.fr = .ad t i k) :
    Res E β w σ tok ((execOp a.eval o).run P w) (y'.ev σ.fr) σ.H := by
  have hr := opd_rep h hy
  rcases hx with ⟨e, k, he⟩ | ⟨t, i, k, he⟩
  · rw [he] at hr
    obtain ⟨g, b, cv, hv, _⟩ := hr.pr_inv
    exact res_pure h (v := a.eval y) (by simp [execOp, ho, hv]) (he ▸ hr)
  · rw [he] at hr
    obtain ⟨p, _, hv⟩ := hr.ad_inv
    exact res_pure h (v := a.eval y) (by simp [execOp, ho, hv]) (he ▸ hr)

theorem addr_rep (k : Nat) {β : Bt} {ok : Nat → Prop} {v : Value} : 
    (∀ e of, Rep β ok w v (.pr e of) → ∃ g b, v = .pointer (some ⟨g, b, none⟩) ∧ Rep β ok w (.pointer (some ⟨g, b + k, none⟩)) (.pr e (of + k))) ∧
    (∀ t i of, Rep β ok w v (.ad t i of) → ∃ g b, v = .pointer (some ⟨g, b, none⟩) ∧ Rep β ok w (.pointer (some ⟨g, b + k, none⟩)) (.ad t i (of + k))) := by
  constructor
  · intro e of hr
    obtain ⟨g, b, cv, hv, h1, h2, h3, h4⟩ := hr.pr_inv
    exact ⟨g, b + of, hv, by rw [Nat.add_assoc]; exact .pr e (of + k) g b cv h1 h2 h3 h4⟩
  · intro t i of hr
    obtain ⟨p, hp, hv⟩ := hr.ad_inv
    exact ⟨p.g, _, hv, by rw [Nat.add_assoc]; exact .ad t i (of + k) p hp⟩

theorem op_fad (h : Sim E β N a w σ) {t : TypeId} {y : Operand} {y' : AO} {n : Nat} (ho : o.op = .fieldAddr t y n) {fs : Array Field} {f : Field} (ht : P.underlying t = some (.struct fs)) (hf : fs[n]? = some f)
    {b : Bool} {s : Nat} (hs : tyOf P f.type = some (b, s)) (hs0 : s ≠ 0) (hy : copd y = some y') :
    (∀ e of, y'.ev σ.fr = .pr e of → Res E β w σ tok ((execOp a.eval o).run P w) (.pr e (of + f.offset)) σ.H) ∧
    (∀ u i of, y'.ev σ.fr = .ad u i of → Res E β w σ tok ((execOp a.eval o).run P w) (.ad u i (of + f.offset)) σ.H) := by
  have hr := opd_rep h hy
  have run : ∀ g k, (execOp (fun _ => Value.pointer (some ⟨g, k, none⟩)) o).run P w = .ok (.value (.pointer (some ⟨g, k + f.offset, none⟩))) w := by
    intro g k
    simp [execOp, ho, Instr.fieldAt, run_underlying ht, hf, Instr.sureAddr, fieldPlace, run_sizeOf_ty hs, hs0, Addr.add_lit]
  have cg : ∀ g k, a.eval y = .pointer (some ⟨g, k, none⟩) → (execOp a.eval o).run P w = .ok (.value (.pointer (some ⟨g, k + f.offset, none⟩))) w := by
    intro g k hv
    rw [← run g k]
    congr 1
    exact execOp_congr o (by simp [ho]) (by simp [ho, Op.operands, hv])
  constructor
  · intro e of he
    rw [he] at hr
    obtain ⟨g, b, hv, hr'⟩ := (addr_rep f.offset).1 e of hr
    exact res_pure h (cg g b hv) hr'
  · intro u i of he
    rw [he] at hr
    obtain ⟨g, b, hv, hr'⟩ := (addr_rep f.offset).2 u i of hr
    exact res_pure h (cg g b hv) hr'

theorem run_part {t : TypeId} {s : Option Nat} (ht : ldOf P t = some s) {vs : Array Value} {cs : List AV} {ok : Nat → Prop} (hl : vs.size = cs.length)
    (hc : ∀ (j : Nat) (y : AV), cs[j]? = some y → Rep β ok w ((vs[j]?).getD undef) y) {of : Nat} (hp : partOf s cs of = some x) : ∃ v, (part t vs of).run P w = .ok v w ∧ Rep β ok w v x := by
  unfold ldOf at ht
  split at ht
  · rename_i k hk
    cases ht
    simp only [partOf] at hp
    split at hp
    · rename_i hle
      cases hp
      refine ⟨.agg (vs.extract of (of + k)), by simp [part, run_isAgg_ty hk, run_sizeOf_ty hk], .agg _ _ (by simp; omega) ?_⟩
      intro j y hy
      have hj : j < k := by have := (List.getElem?_eq_some_iff.1 hy).1; simp at this; omega
      have h2 : cs[of + j]? = some y := by rw [← hy]; simp [List.getElem?_take, hj]
      have h3 := hc _ _ h2
      have : (vs.extract of (of + k))[j]? = vs[of + j]? := by
        rw [Array.getElem?_extract]; simp; omega
      rw [this]; exact h3
    · cases hp
  · rename_i hk
    cases ht
    simp only [partOf] at hp
    have hlt : of < vs.size := by have := (List.getElem?_eq_some_iff.1 hp).1; omega
    have h3 := hc _ _ hp
    refine ⟨vs[of], by simp [part, run_isAgg_ty hk, Array.getElem?_eq_getElem hlt], by simpa [Array.getElem?_eq_getElem hlt] using h3⟩
  · cases ht

theorem op_fld (h : Sim E β N a w σ) {t : TypeId} {y : Operand} {y' : AO} {n : Nat} (ho : o.op = .field t y n) {fs : Array Field} {f : Field} (ht : P.underlying t = some (.struct fs)) (hf : fs[n]? = some f)
    {s : Option Nat} (hs : ldOf P f.type = some s) (hy : copd y = some y') {cs : List AV} (hv : y'.ev σ.fr = .agg cs) (hp : partOf s cs f.offset = some x) :
    Res E β w σ tok ((execOp a.eval o).run P w) x σ.H := by
  have hr := opd_rep h hy
  rw [hv] at hr
  obtain ⟨vs, he, hl, hc⟩ := hr.agg_inv
  obtain ⟨v, h1, h2⟩ := run_part (P := P) hs hl hc hp
  exact res_pure h (by simp [execOp, ho, Instr.field, run_underlying ht, hf, he, asAgg, h1]) h2

theorem op_iad_sl (h : Sim E β N a w σ) {t e : TypeId} {y z : Operand} {y' z' : AO} (ho : o.op = .indexAddr t y z) (ht : P.underlying t = some (.slice e)) {b : Bool} {s : Nat} (hs : tyOf P e = some (b, s))
    (hy : copd y = some y') (hz : copd z = some z') {k : IntKind} {n : Int} (hzv : z'.ev σ.fr = .i k n) {tg : Option Nat} {xs : List AV} (hyv : y'.ev σ.fr = .sl tg xs) (hn : 0 ≤ n) {el : AV}
    (he : xs[n.toNat]? = some el) (hsz : el.cells.length = s) : Res E β w σ tok ((execOp a.eval o).run P w) (.pr el 0) σ.H := by
  have hr := hyv ▸ opd_rep h hy
  have hi := (hzv ▸ opd_rep h hz : Rep _ _ _ _ (.i k n)).i_inv
  obtain ⟨ad, c, hv, hc, hx⟩ := hr.sl_inv
  have hlt : n.toNat < xs.length := (List.getElem?_eq_some_iff.1 he).1
  obtain ⟨g, of, sz, cv, rfl, hg, hgl, _, hss, hm, hrr⟩ := hx (by intro e; subst e; simp at hlt)
  obtain rfl : sz = s := by rw [← hsz]; exact (hss _ _ he).symm
  refine res_pure h (v := .pointer (some ⟨g, of + n.toNat * sz, none⟩)) ?_ ?_
  · have : n < (xs.length : Int) := by omega
    simp [execOp, ho, hv, hi, Instr.indexAt, asIntOf, run_underlying ht, hn, this, run_sizeOf_ty hs, Addr.add_lit]
  · exact .pr el 0 g (of + n.toNat * sz) (cv n.toNat) hg hgl (fun j hj => hm _ _ _ he (by omega)) (fun j y hj => hrr _ _ _ _ he hj)

theorem op_iad_rf (h : Sim E β N a w σ) {t e : TypeId} {y z : Operand} {y' z' : AO} (ho : o.op = .indexAddr t y z) (ht : P.underlying t = some (.slice e)) {b : Bool} {sz : Nat} (hs : tyOf P e = some (b, sz))
    (hy : copd y = some y') (hz : copd z = some z') {k : IntKind} {n : Int} (hzv : z'.ev σ.fr = .i k n) {u s m : Nat} (hyv : y'.ev σ.fr = .rf u s m) (hn : 0 ≤ n) (hm : n < m) {zz : Nat} {es : List AV} (hes : σ.H u = some (zz, es)) {el : AV}
    (he : es[s + n.toNat]? = some el) (hsz : el.cells.length = sz) : Res E β w σ tok ((execOp a.eval o).run P w) (.ad u (s + n.toNat) 0) σ.H := by
  have hr := hyv ▸ opd_rep h hy
  have hi := (hzv ▸ opd_rep h hz : Rep _ _ _ _ (.i k n)).i_inv
  obtain ⟨p, ad, c, hp, hv, ha, hc, h0⟩ := hr.rf_inv
  obtain ⟨p', hp', _, _, _, hx⟩ := h.hs.dom _ _ hes
  rw [hp] at hp'; cases hp'
  have hpz : p.sz = sz := by rw [← hsz]; exact ((hx _ _ he).1).symm
  have hm0 : m ≠ 0 := by omega
  have hadr := ha (.inl hm0)
  subst hadr
  refine res_pure h (v := .pointer (some ⟨p.g, s * p.sz + n.toNat * sz, none⟩)) ?_ ?_
  · simp [execOp, ho, hv, hi, Instr.indexAt, asIntOf, run_underlying ht, hn, hm, run_sizeOf_ty hs, Addr.add_lit]
  · have : s * p.sz + n.toNat * sz = (s + n.toNat) * p.sz + 0 := by rw [hpz, Nat.add_mul]; omega
    rw [this]
    exact .ad u (s + n.toNat) 0 p hp

theorem op_aad (h : Sim E β N a w σ) {t e : TypeId} {y z : Operand} {y' z' : AO} {n : Nat} (ho : o.op = .indexAddr t y z) (ht : P.underlying t = some (.array n e)) {b : Bool} {sz : Nat} (hs : tyOf P e = some (b, sz))
    (hy : copd y = some y') (hz : copd z = some z') {k : IntKind} {j : Int} (hzv : z'.ev σ.fr = .i k j) (hj : 0 ≤ j) (hjn : j < n) :
    (∀ e of, y'.ev σ.fr = .pr e of → Res E β w σ tok ((execOp a.eval o).run P w) (.pr e (of + j.toNat * sz)) σ.H) ∧
    (∀ u i of, y'.ev σ.fr = .ad u i of → Res E β w σ tok ((execOp a.eval o).run P w) (.ad u i (of + j.toNat * sz)) σ.H) := by
  have hr := opd_rep h hy
  have hi := (hzv ▸ opd_rep h hz : Rep _ _ _ _ (.i k j)).i_inv
  have cg : ∀ g q, a.eval y = .pointer (some ⟨g, q, none⟩) → (execOp a.eval o).run P w = .ok (.value (.pointer (some ⟨g, q + j.toNat * sz, none⟩))) w := by
    intro g q hv
    simp [execOp, ho, hv, hi, Instr.indexAt, asIntOf, run_underlying ht, Instr.sureAddr, hj, hjn, run_sizeOf_ty hs, Addr.add_lit]
  constructor
  · intro e of he
    rw [he] at hr
    obtain ⟨g, b, hv, hr'⟩ := (addr_rep (j.toNat * sz)).1 e of hr
    exact res_pure h (cg g b hv) hr'
  · intro u i of he
    rw [he] at hr
    obtain ⟨g, b, hv, hr'⟩ := (addr_rep (j.toNat * sz)).2 u i of hr
    exact res_pure h (cg g b hv) hr'

theorem op_sidx (h : Sim E β N a w σ) {t : TypeId} {y z : Operand} {y' z' : AO} (ho : o.op = .index t y z) (ht : P.underlying t = some .string)
    (hy : copd y = some y') (hz : copd z = some z') {k : IntKind} {n : Int} (hzv : z'.ev σ.fr = .i k n) {s : ByteArray} (hyv : y'.ev σ.fr = .s s) (hn : 0 ≤ n) {c : UInt8} (hc : s[n.toNat]? = some c) :
    Res E β w σ tok ((execOp a.eval o).run P w) (.i .u8 c.toNat) σ.H := by
  have hr := (hyv ▸ opd_rep h hy : Rep _ _ _ _ (.s s)).s_inv
  have hi := (hzv ▸ opd_rep h hz : Rep _ _ _ _ (.i k n)).i_inv
  exact res_pure h (by simp [execOp, ho, hr, hi, Instr.index, asIntOf, run_underlying ht, hn, hc]) (.i _ _)

theorem op_not (h : Sim E β N a w σ) {t : TypeId} {y : Operand} {y' : AO} (ho : o.op = .unOp .not t y) (hy : copd y = some y') {b : Bool} (hv : y'.ev σ.fr = .b b) :
    Res E β w σ tok ((execOp a.eval o).run P w) (.b (!b)) σ.H := by
  have hr := (hv ▸ opd_rep h hy : Rep _ _ _ _ (.b b)).b_inv
  exact res_pure h (by simp [execOp, ho, hr, Op.unary]) (.b _)

theorem op_neg (h : Sim E β N a w σ) {t : TypeId} {y : Operand} {y' : AO} (ho : o.op = .unOp .neg t y) (hy : copd y = some y') {k : IntKind} {n : Int} (hv : y'.ev σ.fr = .i k n) :
    Res E β w σ tok ((execOp a.eval o).run P w) (.i k (k.wrap (0 - n))) σ.H := by
  have hr := (hv ▸ opd_rep h hy : Rep _ _ _ _ (.i k n)).i_inv
  exact res_pure h (by simp [execOp, ho, hr, Op.unary, Op.intArith]) (.i _ _)

theorem op_cvt (h : Sim E β N a w σ) {s d : TypeId} {y : Operand} {y' : AO} (ho : o.op = .convert s d y) {k0 k : IntKind} (hs : P.underlying s = some (.int k0)) (hd : P.underlying d = some (.int k)) (hy : copd y = some y')
    {k1 : IntKind} {n : Int} (hv : y'.ev σ.fr = .i k1 n) : Res E β w σ tok ((execOp a.eval o).run P w) (.i k (k.wrap n)) σ.H := by
  have hr := (hv ▸ opd_rep h hy : Rep _ _ _ _ (.i k1 n)).i_inv
  exact res_pure h (by simp [execOp, ho, hr, convert, run_underlying hs, run_underlying hd, Conv.intToInt]) (.i _ _)

theorem op_ext (h : Sim E β N a w σ) {y : Operand} {y' : AO} {i : Nat} (ho : o.op = .extract y i) (hy : copd y = some y') {vs : List AV} (hv : y'.ev σ.fr = .tup vs) (hx : vs[i]? = some x) :
    Res E β w σ tok ((execOp a.eval o).run P w) x σ.H := by
  obtain ⟨us, he, hl, hc⟩ := (hv ▸ opd_rep h hy : Rep _ _ _ _ (.tup vs)).tup_inv
  have hlt : i < us.size := by have := (List.getElem?_eq_some_iff.1 hx).1; omega
  have hr := hc _ _ hx
  rw [Array.getElem?_eq_getElem hlt] at hr
  exact res_pure h (v := us[i]) (by simp [execOp, ho, he, Instr.extract, Array.getElem?_eq_getElem hlt]) hr

theorem op_mkf (h : Sim E β N a w σ) {f : Nat} {first caps : Array Operand} {cs : List AO} (ho : o.op = .makeFunc (.func f) first caps) (hf : first.size = 0) (hc : copds caps.toList = some cs) :
    Res E β w σ tok ((execOp a.eval o).run P w) (.fn f (cs.map (·.ev σ.fr))) σ.H := by
  obtain ⟨hl, hy⟩ := opds_rep h hc
  have h0 : first = #[] := Array.eq_empty_of_size_eq_zero hf
  subst h0
  refine res_pure h (v := .func (.func f) #[] (caps.map a.eval)) (by simp [execOp, ho, Instr.makeFunc]) (.fn f _ _ (by simpa using hl) ?_)
  intro j y hj
  simp only [List.getElem?_map, Option.map_eq_some_iff] at hj
  obtain ⟨z, hz, rfl⟩ := hj
  obtain ⟨u, hu, hr⟩ := hy j z hz
  simp at hu
  simpa [hu] using hr

theorem op_len (h : Sim E β N a w σ) {t : TypeId} {y : Operand} {y' : AO} {c : Call} (ho : o.op = .call c) (hcal : c.callee = .builtin .len) (hargs : c.args.toList = [y]) (hts : c.argTypes.toList = [t]) (hy : copd y = some y') :
    (∀ e, P.underlying t = some (.slice e) → y'.ev σ.fr = .nl → Res E β w σ tok ((execOp a.eval o).run P w) (.i .i64 0) σ.H) ∧
    (∀ e tg xs, P.underlying t = some (.slice e) → y'.ev σ.fr = .sl tg xs → Res E β w σ tok ((execOp a.eval o).run P w) (.i .i64 xs.length) σ.H) ∧
    (∀ e u s m, P.underlying t = some (.slice e) → y'.ev σ.fr = .rf u s m → Res E β w σ tok ((execOp a.eval o).run P w) (.i .i64 m) σ.H) ∧
    (∀ s, P.underlying t = some .string → y'.ev σ.fr = .s s → Res E β w σ tok ((execOp a.eval o).run P w) (.i .i64 s.size) σ.H) := by
  have hr := opd_rep h hy
  have e1 : c.args = #[y] := by rw [← hargs]
  have e2 : c.argTypes = #[t] := by rw [← hts]
  refine ⟨?_, ?_, ?_, ?_⟩
  · intro e ht hv
    have hn := (hv ▸ hr : Rep _ _ _ _ .nl).nl_inv
    exact res_pure h (by simp [execOp, ho, resolve, hcal, e1, e2, invoke, builtin, Builtin.len_, run_underlying ht, hn, goInt]) (.i _ _)
  · intro e tg xs ht hv
    obtain ⟨ad, cp, hn, _⟩ := (hv ▸ hr : Rep _ _ _ _ (.sl tg xs)).sl_inv
    exact res_pure h (by simp [execOp, ho, resolve, hcal, e1, e2, invoke, builtin, Builtin.len_, run_underlying ht, hn, goInt]) (.i _ _)
  · intro e u s m ht hv
    obtain ⟨p, ad, cp, _, hn, _⟩ := (hv ▸ hr : Rep _ _ _ _ (.rf u s m)).rf_inv
    exact res_pure h (by simp [execOp, ho, resolve, hcal, e1, e2, invoke, builtin, Builtin.len_, run_underlying ht, hn, goInt]) (.i _ _)
  · intro s ht hv
    have hn := (hv ▸ hr : Rep _ _ _ _ (.s s)).s_inv
    exact res_pure h (by simp [execOp, ho, resolve, hcal, e1, e2, invoke, builtin, Builtin.len_, run_underlying ht, hn, goInt]) (.i _ _)

end ops
end Go.Am
