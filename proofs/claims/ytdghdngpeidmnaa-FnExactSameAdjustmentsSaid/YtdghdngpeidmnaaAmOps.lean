/-
  A part of the proof that the law FnExactSameAdjustments holds (abstract machine, walks, or the join). No conditions.
-/
import Derived.Test.YtdghdngpeidmnaaAmComp
import Derived.Deep.MidRow
import Derived.WalkKit
/-! Each operation of the machine does what the abstract machine says: what leaves memory alone. -/
namespace Go.Am
set_option linter.unusedVariables false
set_option linter.unusedSimpArgs false

section inv
variable {β : Bt} {ok : Nat → Prop} {w : World} {v : Value}
theorem Rep.b_inv {x : Bool} (h : Rep β ok w v (.b x)) : v = .bool x := by cases h; rfl
theorem Rep.i_inv {k : IntKind} {n : Int} (h : Rep β ok w v (.i k n)) : v = .int k n := by cases h; rfl
theorem Rep.s_inv {x : ByteArray} (h : Rep β ok w v (.s x)) : v = .string x := by cases h; rfl
theorem Rep.agg_inv {cs : List AV} (h : Rep β ok w v (.agg cs)) : ∃ vs, v = .agg vs ∧ vs.size = cs.length ∧ ∀ (j : Nat) (y : AV), cs[j]? = some y → Rep β ok w ((vs[j]?).getD undef) y := by
  cases h; exact ⟨_, rfl, by assumption, by assumption⟩
theorem Rep.tup_inv {cs : List AV} (h : Rep β ok w v (.tup cs)) : ∃ vs, v = .tuple vs ∧ vs.size = cs.length ∧ ∀ (j : Nat) (y : AV), cs[j]? = some y → Rep β ok w ((vs[j]?).getD undef) y := by
  cases h; exact ⟨_, rfl, by assumption, by assumption⟩
theorem Rep.nl_inv (h : Rep β ok w v .nl) : v = .slice none 0 0 := by cases h; rfl
theorem Rep.pr_inv {e : AV} {o : Nat} (h : Rep β ok w v (.pr e o)) : ∃ (g b : Nat) (cv : Nat → Value), v = .pointer (some ⟨g, b + o, none⟩) ∧ ok g ∧ g < w.heap.size ∧
    (∀ j, j < e.cells.length → w.cell? ⟨g, b + j, none⟩ = some (cv j)) ∧ (∀ (j : Nat) (y : AV), e.cells[j]? = some y → Rep β ok w (cv j) y) := by
  cases h; exact ⟨_, _, _, rfl, by assumption, by assumption, by assumption, by assumption⟩
theorem Rep.ad_inv {t i o : Nat} (h : Rep β ok w v (.ad t i o)) : ∃ p, β t = some p ∧ v = .pointer (some ⟨p.g, i * p.sz + o, none⟩) := by
  cases h; exact ⟨_, by assumption, rfl⟩
theorem Rep.rf_inv {t s m : Nat} (h : Rep β ok w v (.rf t s m)) : ∃ (p : Pl) (a : Option Addr) (c : Nat), β t = some p ∧ v = .slice a m c ∧ ((m ≠ 0 ∨ s = 0) → a = some ⟨p.g, s * p.sz, none⟩) ∧ m ≤ c ∧ (s = 0 → c = p.cap) := by
  cases h; exact ⟨_, _, _, by assumption, rfl, by assumption, by assumption, by assumption⟩
theorem Rep.fn_inv {f : Nat} {caps : List AV} (h : Rep β ok w v (.fn f caps)) : ∃ vs, v = .func (.func f) #[] vs ∧ vs.size = caps.length ∧ ∀ (j : Nat) (y : AV), caps[j]? = some y → Rep β ok w ((vs[j]?).getD undef) y := by
  cases h; exact ⟨_, rfl, by assumption, by assumption⟩
/-- A slice value: its length, and, where it has elements, where they lie. -/
theorem Rep.sl_inv {t : Option Nat} {xs : List AV} (h : Rep β ok w v (.sl t xs)) : ∃ (a : Option Addr) (c : Nat), v = .slice a xs.length c ∧ xs.length ≤ c ∧ (xs ≠ [] → ∃ (g o sz : Nat) (cv : Nat → Nat → Value),
      a = some ⟨g, o, none⟩ ∧ ok g ∧ g < w.heap.size ∧ (∀ k, t = some k → ∃ p, β k = some p ∧ p.g = g ∧ p.dead = false) ∧
      (∀ (i : Nat) (x : AV), xs[i]? = some x → x.cells.length = sz) ∧ (∀ (i : Nat) (x : AV) (j : Nat), xs[i]? = some x → j < sz → w.cell? ⟨g, o + i * sz + j, none⟩ = some (cv i j)) ∧
      (∀ (i : Nat) (x : AV) (j : Nat) (y : AV), xs[i]? = some x → x.cells[j]? = some y → Rep β ok w (cv i j) y)) := by
  cases h with
  | sl0 t a c => exact ⟨a, c, rfl, Nat.zero_le _, fun h => absurd rfl h⟩
  | sl g o c sz t xs cv hc hg hlt ht hs hm hr => exact ⟨_, c, rfl, hc, fun _ => ⟨g, o, sz, cv, rfl, hg, hlt, ht, hs, hm, hr⟩⟩
end inv

theorem cell1_rep {v : Value} {x : AV} (h : cell1 v = some x) (β : Bt) (ok : Nat → Prop) (w : World) : Rep β ok w v x ∧ x.cells = [x] ∧ v.cells = #[v] ∧ cellOk x = true := by
  unfold cell1 at h
  split at h <;> first | cases h | skip
  · exact ⟨.b _, rfl, rfl, rfl⟩
  · exact ⟨.i _ _, rfl, rfl, rfl⟩
  · exact ⟨.s _, rfl, rfl, rfl⟩
  · exact ⟨.nl, rfl, rfl, rfl⟩

theorem cells1_rep : ∀ {vs : List Value} {xs : List AV} (h : cells1 vs = some xs) (β : Bt) (ok : Nat → Prop) (w : World),
    vs.length = xs.length ∧ ∀ (j : Nat) (y : AV), xs[j]? = some y → ∃ u, vs[j]? = some u ∧ Rep β ok w u y
  | [], xs, h, β, ok, w => by cases h; exact ⟨rfl, fun j y hj => by simp at hj⟩
  | v :: r, xs, h, β, ok, w => by
    simp only [cells1] at h
    split at h
    · rename_i x xs' h1 h2
      cases h
      have ih := cells1_rep h2 β ok w
      refine ⟨by simp [ih.1], fun j y hj => ?_⟩
      cases j with
      | zero => simp at hj; subst hj; exact ⟨v, rfl, (cell1_rep h1 β ok w).1⟩
      | succ j => simp at hj; simpa using ih.2 j y hj
    · cases h

theorem cval_rep {v : Value} {x : AV} (h : cval v = some x) (β : Bt) (ok : Nat → Prop) (w : World) :
    Rep β ok w v x ∧ v.cells.size = x.cells.length ∧ ∀ (j : Nat) (y : AV), x.cells[j]? = some y → ∃ u, v.cells[j]? = some u ∧ Rep β ok w u y := by
  have one : ∀ {v : Value} {x : AV}, cell1 v = some x → Rep β ok w v x ∧ v.cells.size = x.cells.length ∧ ∀ (j : Nat) (y : AV), x.cells[j]? = some y → ∃ u, v.cells[j]? = some u ∧ Rep β ok w u y := by
    intro v x h
    obtain ⟨h1, h2, h3, _⟩ := cell1_rep h β ok w
    refine ⟨h1, by rw [h2, h3]; rfl, fun j y hj => ?_⟩
    rw [h2] at hj; rw [h3]
    cases j with
    | zero => simp at hj; subst hj; exact ⟨v, rfl, h1⟩
    | succ j => simp at hj
  unfold cval at h
  split at h
  · rename_i cs
    cases hx : cells1 cs.toList with
    | none => rw [hx] at h; cases h
    | some xs =>
      rw [hx] at h; cases h
      obtain ⟨hl, hy⟩ := cells1_rep hx β ok w
      refine ⟨.agg _ _ (by simpa using hl) fun j y hj => ?_, by simpa [Value.cells, AV.cells] using hl, fun j y hj => by simpa [Value.cells] using hy j y hj⟩
      obtain ⟨u, hu, hr⟩ := hy j y hj
      simp at hu
      simpa [hu] using hr
  · exact one h

section opd
variable {E : Entry} {β : Bt} {N : Nat} {a : Act} {w : World} {σ : St}

theorem opd_rep (h : Sim E β N a w σ) {x : Operand} {y : AO} (hc : copd x = some y) : Rep β (okB E.X β σ.H) w (a.eval x) (y.ev σ.fr) := by
  cases x with
  | tmp t => cases hc; exact h.fs t
  | const v =>
    simp only [copd] at hc
    cases hv : cval v with
    | none => rw [hv] at hc; cases hc
    | some z => rw [hv] at hc; cases hc; exact (cval_rep hv _ _ _).1
  | global g => cases hc
  | func f => cases hc; exact .fn f [] #[] rfl fun j y hj => by simp at hj

theorem opds_rep (h : Sim E β N a w σ) : ∀ {xs : List Operand} {ys : List AO} (hc : copds xs = some ys),
    xs.length = ys.length ∧ ∀ (j : Nat) (y : AO), ys[j]? = some y → ∃ x, xs[j]? = some x ∧ Rep β (okB E.X β σ.H) w (a.eval x) (y.ev σ.fr)
  | [], ys, hc => by cases hc; exact ⟨rfl, fun j y hj => by simp at hj⟩
  | x :: r, ys, hc => by
    simp only [copds] at hc
    split at hc
    · rename_i z zs h1 h2
      cases hc
      have ih := opds_rep h h2
      refine ⟨by simp [ih.1], fun j y hj => ?_⟩
      cases j with
      | zero => simp at hj; subst hj; exact ⟨x, rfl, opd_rep h h1⟩
      | succ j => simp at hj; simpa using ih.2 j y hj
    · cases hc
end opd

/-- What an operation comes to. -/
def Res (E : Entry) (β : Bt) (w : World) (σ : St) (tok : Nat) (r : Result Next) (x : AV) (H' : Heap) : Prop :=
  ∃ nx v w' β', r = .ok nx w' ∧ (nx = .value v ∨ (nx = .skip ∧ v = undef)) ∧ HSim E.X β' w' H' σ.n ∧ Stp β (okB E.X β σ.H) w β' (okB E.X β' H') w' ∧
    Ctx E β' w' H' σ.n ∧ Rep β' (okB E.X β' H') w' v x ∧ ∀ u, u ≠ tok → β u = none → β' u = none

section ops
variable {P : Program} {E : Entry} {β : Bt} {N : Nat} {a : Act} {w : World} {σ : St} {tok : Nat} {x : AV} {H' : Heap} {o : Oper}

theorem res_pure (h : Sim E β N a w σ) {v : Value} {r : Result Next} (hr : r = .ok (.value v) w) (hv : Rep β (okB E.X β σ.H) w v x) : Res E β w σ tok r x σ.H :=
  ⟨_, v, w, β, hr, .inl rfl, h.hs, Stp.refl _ _ _, h.cx, hv, fun _ _ h => h⟩

theorem op_mv (h : Sim E β N a w σ) {y : Operand} {z : AO} (ho : o.op = .move y ∨ o.op = .assign y) (hc : copd y = some z) : Res E β w σ tok ((execOp a.eval o).run P w) (z.ev σ.fr) σ.H := by
  refine res_pure h ?_ (opd_rep h hc)
  rcases ho with ho | ho <;> simp [execOp, ho]

theorem op_pick (h : Sim E β N a w σ) {c y z : Operand} {c' y' z' : AO} (ho : o.op = .pick c y z) (h1 : copd c = some c') (h2 : copd y = some y') (h3 : copd z = some z') {q : Bool}
    (hq : c'.ev σ.fr = .b q) : Res E β w σ tok ((execOp a.eval o).run P w) (if q then y'.ev σ.fr else z'.ev σ.fr) σ.H := by
  have hb := (hq ▸ opd_rep h h1 : Rep _ _ _ _ (.b q)).b_inv
  cases q
  · exact res_pure h (by simp [execOp, ho, hb, asBool]) (opd_rep h h3)
  · exact res_pure h (by simp [execOp, ho, hb, asBool]) (opd_rep h h2)

theorem tyOf_info {t : TypeId} {b : Bool} {s : Nat} (h : tyOf P t = some (b, s)) : ∃ i d, P.info? t = some i ∧ i.size = s ∧ P.underlying t = some d ∧ d.isRow = b := by
  unfold tyOf at h
  split at h <;> first | cases h | skip
  · exact ⟨_, _, by assumption, rfl, by assumption, rfl⟩
  · exact ⟨_, _, by assumption, rfl, by assumption, rfl⟩
  · rename_i d i h1 h2 hd hi
    refine ⟨i, d, hi, rfl, hd, ?_⟩
    cases d <;> simp_all [TypeDesc.isRow]

theorem run_sizeOf_ty {t : TypeId} {b : Bool} {s : Nat} (h : tyOf P t = some (b, s)) (w : World) : (sizeOf t).run P w = .ok s w := by
  obtain ⟨i, d, h1, h2, _⟩ := tyOf_info h
  simp [sizeOf, typeInfo, h1, h2]

theorem run_isAgg_ty {t : TypeId} {b : Bool} {s : Nat} (h : tyOf P t = some (b, s)) (w : World) : (isAgg t).run P w = .ok b w := by
  obtain ⟨i, d, h1, h2, h3, h4⟩ := tyOf_info h
  unfold isAgg
  rw [Sem.run_bind, run_underlying h3 w]
  subst h4
  cases d <;> simp [TypeDesc.isRow]

theorem look_cells {H : Heap} {n : Nat} (hs : HSim E.X β w H n) {v : Value} {av : AV} (hv : Rep β (okB E.X β H) w v av) {e : AV} {of : Nat} (hl : look H av = some (e, of)) :
    ∃ g b, v = .pointer (some ⟨g, b + of, none⟩) ∧ ∀ (j : Nat) (y : AV), e.cells[j]? = some y → ∃ u, w.cell? ⟨g, b + j, none⟩ = some u ∧ Rep β (okB E.X β H) w u y := by
  unfold look at hl
  split at hl
  · cases hl
    obtain ⟨g, b, cv, rfl, _, _, hm, hr⟩ := hv.pr_inv
    exact ⟨g, b, rfl, fun j y hj => ⟨cv j, hm j (by have := (List.getElem?_eq_some_iff.1 hj).1; exact this), hr j y hj⟩⟩
  · split at hl
    · rename_i zz es hes
      split at hl
      · rename_i e0 he
        cases hl
        obtain ⟨p, hp, rfl⟩ := hv.ad_inv
        obtain ⟨p', hp', _, _, _, hx⟩ := hs.dom _ _ hes
        rw [hp] at hp'; cases hp'
        exact ⟨p.g, _, rfl, fun j y hj => (hx _ _ he).2 j y hj⟩
      · cases hl
    · cases hl
  · cases hl

/-- The cells of a range as a list. -/
noncomputable def cellsAt (w : World) (g b k : Nat) : List Value := (List.range k).map fun j => (w.cell? ⟨g, b + j, none⟩).getD undef

theorem run_loadVar_rep {t : TypeId} {s : Option Nat} (ht : ldOf P t = some s) {g b of : Nat} {cs : List AV} {ok : Nat → Prop} {w : World}
    (hc : ∀ (j : Nat) (y : AV), cs[j]? = some y → ∃ u, w.cell? ⟨g, b + j, none⟩ = some u ∧ Rep β ok w u y) (hp : partOf s cs of = some x) :
    ∃ v, (loadVar t ⟨g, b + of, none⟩).run P w = .ok v w ∧ Rep β ok w v x := by
  unfold ldOf at ht
  split at ht
  · rename_i k hk
    cases ht
    simp only [partOf] at hp
    split at hp
    · rename_i hle
      cases hp
      obtain ⟨i, d, h1, h2, h3, h4⟩ := tyOf_info hk
      have hcell : ∀ j, j < k → ∃ u, w.cell? ⟨g, b + of + j, none⟩ = some u ∧ ∀ y, cs[of + j]? = some y → Rep β ok w u y := by
        intro j hj
        have hlt : of + j < cs.length := by omega
        obtain ⟨u, hu, hr⟩ := hc (of + j) cs[of + j] (List.getElem?_eq_getElem hlt)
        refine ⟨u, by rw [← hu]; simp [Nat.add_assoc], fun y hy => ?_⟩
        rw [List.getElem?_eq_getElem hlt] at hy; cases hy; exact hr
      have hlen : (cellsAt w g (b + of) k).length = k := by simp [cellsAt]
      have hget : ∀ j, j < k → ∃ u, (cellsAt w g (b + of) k)[j]? = some u ∧ w.cell? ⟨g, b + of + j, none⟩ = some u := by
        intro j hj
        obtain ⟨u, hu, _⟩ := hcell j hj
        exact ⟨u, by simp [cellsAt, hj, hu], hu⟩
      refine ⟨.agg (cellsAt w g (b + of) k).toArray, run_loadVar_mid w g (b + of) t (cellsAt w g (b + of) k) d ?_ h3 (by rw [h4]) (by simp [h1, h2, hlen]), .agg _ _ (by simp [hlen]; omega) ?_⟩
      · intro j v hv
        have hj : j < k := by rw [← hlen]; exact (List.getElem?_eq_some_iff.1 hv).1
        obtain ⟨u, h5, h6⟩ := hget j hj
        rw [hv] at h5; cases h5; exact h6
      · intro j y hy
        have hj : j < k := by have := (List.getElem?_eq_some_iff.1 hy).1; simp at this; omega
        obtain ⟨u, h5, h6⟩ := hget j hj
        obtain ⟨u', h7, h8⟩ := hcell j hj
        rw [h6] at h7; cases h7
        have : cs[of + j]? = some y := by rw [← hy]; simp [List.getElem?_take, hj]
        simpa [h5] using h8 y this
    · cases hp
  · rename_i hk
    cases ht
    simp only [partOf] at hp
    obtain ⟨u, hu, hr⟩ := hc of x hp
    refine ⟨u, ?_, hr⟩
    simp [loadVar, run_isAgg_ty hk w, hu]
  · cases ht

theorem op_ld (h : Sim E β N a w σ) {t : TypeId} {y : Operand} {y' : AO} {s : Option Nat} (ho : o.op = .load t y) (ht : ldOf P t = some s) (hy : copd y = some y') {e : AV} {of : Nat}
    (hl : look σ.H (y'.ev σ.fr) = some (e, of)) (hp : partOf s e.cells of = some x) : Res E β w σ tok ((execOp a.eval o).run P w) x σ.H := by
  obtain ⟨g, b, hv, hc⟩ := look_cells h.hs (opd_rep h hy) hl
  obtain ⟨v, h1, h2⟩ := run_loadVar_rep (P := P) ht hc hp
  exact res_pure h (by simp [execOp, ho, hv, Instr.loadAt, Instr.sureAddr, h1]) h2

end ops
end Go.Am
