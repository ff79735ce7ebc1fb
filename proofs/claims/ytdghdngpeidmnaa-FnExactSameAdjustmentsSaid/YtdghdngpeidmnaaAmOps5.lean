/-
  A part of the proof that the law FnExactSameAdjustments holds (abstract machine, walks, or the join). No conditions.
-/
import Derived.Test.YtdghdngpeidmnaaAmOps4
/-! Slice literals, make, stores. -/
namespace Go.Am
set_option linter.unusedVariables false
set_option linter.unusedSimpArgs false

theorem row_lt {i n sz j : Nat} (hi : i < n) (hj : j < sz) : i * sz + j < n * sz := by
  have : (i + 1) * sz ≤ n * sz := Nat.mul_le_mul_right _ hi
  rw [Nat.add_mul] at this; omega

theorem row_ne {i k sz j : Nat} (h : i ≠ k) (hj : j < sz) : ¬ (k * sz ≤ i * sz + j ∧ i * sz + j < k * sz + sz) := by
  intro ⟨h1, h2⟩
  rcases Nat.lt_or_gt_of_ne h with h3 | h3
  · have : (i + 1) * sz ≤ k * sz := Nat.mul_le_mul_right _ h3
    rw [Nat.add_mul] at this; omega
  · have : (k + 1) * sz ≤ i * sz := Nat.mul_le_mul_right _ h3
    rw [Nat.add_mul] at this; omega

section cells
variable {β : Bt} {ok : Nat → Prop} {w : World}

theorem CellsRep.set {c : Array Value} {sz : Nat} {es : List AV} (h : CellsRep β ok w c sz es) {n : Nat} (hc : c.size = n * sz) (hn : es.length ≤ n) {i : Nat} (hi : i < es.length) {x : AV} {vs : Array Value}
    (hx : ARep β ok w vs x.cells) (hsz : x.cells.length = sz) : CellsRep β ok w (splice c (i * sz) vs.toList) sz (es.set i x) := by
  intro k y hy
  have hvl : vs.toList.length = sz := by simp [hx.1, hsz]
  by_cases hk : i = k
  · subst hk
    rw [List.getElem?_set_self hi] at hy; cases hy
    refine ⟨hsz, fun j q hq => ?_⟩
    have hj : j < sz := by rw [← hsz]; exact (List.getElem?_eq_some_iff.1 hq).1
    have hlt := row_lt (show i < n by omega) hj
    rw [splice_get, if_pos (by rw [hc]; omega)]
    have hjv : j < vs.size := by rw [hx.1]; omega
    refine ⟨vs[j], by rw [show i * sz + j - i * sz = j by omega]; simp [hjv], ?_⟩
    have := hx.2 j q hq
    rwa [Array.getElem?_eq_getElem hjv] at this
  · rw [List.getElem?_set_ne hk] at hy
    obtain ⟨h1, h2⟩ := h k y hy
    refine ⟨h1, fun j q hq => ?_⟩
    have hj : j < sz := by rw [← h1]; exact (List.getElem?_eq_some_iff.1 hq).1
    obtain ⟨v, hv, hr⟩ := h2 j q hq
    refine ⟨v, ?_, hr⟩
    have := row_ne (sz := sz) (Ne.symm hk) hj
    rw [splice_get, if_neg (by omega)]
    exact hv

theorem zeroRow_rep {v : Array Value} {z : AV} (h : ARep β ok w v z.cells) {n m : Nat} (hm : m ≤ n) :
    CellsRep β ok w ((Array.range (n * z.cells.length)).map fun i => v[i % v.size]!) z.cells.length (List.replicate m z) := by
  intro i y hy
  have hi : i < m := by have := (List.getElem?_eq_some_iff.1 hy).1; simpa using this
  rw [List.getElem?_replicate, if_pos hi] at hy; cases hy
  refine ⟨rfl, fun j q hq => ?_⟩
  have hj : j < z.cells.length := (List.getElem?_eq_some_iff.1 hq).1
  have hlt := row_lt (show i < n by omega) hj
  have hjv : j < v.size := by rw [h.1]; exact hj
  refine ⟨v[j], ?_, ?_⟩
  · have hmod : (i * z.cells.length + j) % v.size = j := by rw [h.1, Nat.mul_comm, Nat.mul_add_mod, Nat.mod_eq_of_lt hj]
    simp [hlt, hmod, hjv]
  · have := h.2 j q hq
    rwa [Array.getElem?_eq_getElem hjv] at this
end cells

section ops
variable {P : Program} {E : Entry} {β : Bt} {N : Nat} {a : Act} {w w' : World} {σ : St} {tok : Nat} {x : AV} {H' : Heap} {o : Oper}

theorem partsL_spec : ∀ {ps : List (Nat × Operand)} {qs : List (Nat × AO)}, partsL ps = some qs → qs.length = ps.length ∧
    ∀ (k i : Nat) (y : Operand) (i' : Nat) (y' : AO), ps[k]? = some (i, y) → qs[k]? = some (i', y') → i' = i ∧ copd y = some y'
  | [], qs, hp => by cases hp; exact ⟨rfl, fun k i y i' y' h1 => by simp at h1⟩
  | (i, y) :: r, qs, hp => by
    simp only [partsL] at hp
    split at hp
    · rename_i z l hz hl
      cases hp
      have ih := partsL_spec hl
      refine ⟨by simp [ih.1], fun k i2 y2 i' y' h1 h2 => ?_⟩
      cases k with
      | zero => simp at h1 h2; obtain ⟨rfl, rfl⟩ := h1; obtain ⟨rfl, rfl⟩ := h2; exact ⟨rfl, hz⟩
      | succ k => exact ih.2 k i2 y2 i' y' (by simpa using h1) (by simpa using h2)
    · cases hp

theorem fillL_run (h : Sim E β N a w σ) {sz n : Nat} : ∀ (ps : List (Nat × Operand)) (qs : List (Nat × AO)) (c : Array Value) (es ds : List AV),
    qs.length = ps.length → (∀ (k i : Nat) (y : Operand) (i' : Nat) (y' : AO), ps[k]? = some (i, y) → qs[k]? = some (i', y') → i' = i ∧ copd y = some y') →
    c.size = n * sz → es.length = n → CellsRep β (okB E.X β σ.H) w c sz es → fillL σ.fr sz es qs = some ds →
    ∃ c', Instr.fill (fun i => some (i * sz, sz)) c (ps.map fun p => (p.1, a.eval p.2)) = some c' ∧ c'.size = n * sz ∧ ds.length = n ∧ CellsRep β (okB E.X β σ.H) w c' sz ds
  | [], [], c, es, ds, _, _, hc, hn, hA, hf => by cases hf; exact ⟨c, rfl, hc, hn, hA⟩
  | [], _ :: _, _, _, _, hl, _, _, _, _, _ => by simp at hl
  | _ :: _, [], _, _, _, hl, _, _, _, _, _ => by simp at hl
  | (i, y) :: ps, (i', y') :: qs, c, es, ds, hl, hp, hc, hn, hA, hf => by
    obtain ⟨rfl, h2⟩ := hp 0 i y i' y' rfl rfl
    simp only [fillL] at hf
    split at hf
    · rename_i hcd
      have hr := cells_rep (opd_rep h h2) (isTop_ne hcd.1)
      have hlt : i' < n := by omega
      have hrow : (i' + 1) * sz ≤ n * sz := Nat.mul_le_mul_right _ hlt
      rw [Nat.add_mul] at hrow
      simp only [List.map_cons]
      rw [fill_step _ c i' (a.eval y) _ rfl (by rw [hr.1]; exact hcd.2.1) (by rw [hr.1, hc, hcd.2.1]; omega)]
      exact fillL_run h ps qs _ _ ds (by simpa using hl) (fun k i y i' y' q1 q2 => hp (k + 1) i y i' y' (by simpa using q1) (by simpa using q2)) (by rw [splice_size]; exact hc) (by simpa using hn)
        (hA.set hc (by omega) hcd.2.2 hr hcd.2.1) hf
    · cases hf

theorem zeroOf_size {t : TypeId} {z : AV} (h : zeroOf P t = some z) (w : World) : (sizeOf t).run P w = .ok z.cells.length w ∧ 0 < z.cells.length := by
  obtain ⟨i, v, h1, h2, h3, h4, h5, h6⟩ := zeroOf_info h
  exact ⟨by simp [sizeOf, typeInfo, h1, h4], by omega⟩

theorem op_bsl (h : Sim E β N a w σ) (hf : β tok = none) (htok : tok < σ.n) (hE : E.n ≤ tok) {t e : TypeId} {n : Nat} {ps : Array (Nat × Operand)} {z : AV} {qs : List (Nat × AO)} {ds : List AV}
    (ho : o.op = .buildSlice t n ps) (ht : P.underlying t = some (.slice e)) (hz : zeroOf P e = some z) {inf : TypeInfo} (hi : P.info? e = some inf) (hlim : n * inf.size ≤ 2 ^ 24) (hq : partsL ps.toList = some qs)
    (hfl : fillL σ.fr z.cells.length (List.replicate n z) qs = some ds) : Res E β w σ tok ((execOp a.eval o).run P w) (.rf tok 0 n) (σ.H.upd tok (z.cells.length, ds)) := by
  obtain ⟨v, h1, h2, h3⟩ := zero_ARep (P := P) hz β (okB E.X β σ.H) w
  obtain ⟨hsz, hpos⟩ := zeroOf_size hz w
  have hinf : inf.size = z.cells.length := by
    obtain ⟨i, _, g1, _, _, g4, _⟩ := zeroOf_info hz
    rw [hi] at g1; cases g1; exact g4.symm
  rw [hinf] at hlim
  have hn : n ≤ 2 ^ 24 := Nat.le_trans (Nat.le_mul_of_pos_right n hpos) hlim
  obtain ⟨l1, l2⟩ := partsL_spec hq
  have hc0 : CellsRep β (okB E.X β σ.H) w ((Array.range (n * z.cells.length)).map fun i => v.cells[i % v.cells.size]!) z.cells.length (List.replicate n z) := zeroRow_rep h2 (Nat.le_refl n)
  obtain ⟨c', r1, r2, r3, r4⟩ := fillL_run h (n := n) ps.toList qs _ _ ds l1 l2 (by simp) (by simp) hc0 hfl
  refine res_grew h hf htok hE (w' := { w with heap := w.heap.push (.cells c' e) }) (c := c') (e := e) ⟨rfl, rfl, rfl, rfl⟩ (sz := z.cells.length) (cap := n) (es := ds) (by omega)
    r2 (by simp only [maxLen]; omega) r4 ?_ (.inr ⟨n, rfl, rfl, Nat.le_refl n⟩)
  have hlim' : ¬ n * z.cells.length > 2 ^ 24 := by omega
  have e1 : (ps.map fun p => (p.1, a.eval p.2)).toList = ps.toList.map fun p => (p.1, a.eval p.2) := by simp
  simp only [execOp, ho, Instr.buildSlice, Sem.run_bind, run_underlying ht, Result.andThen_ok, hsz]
  rw [if_neg hlim']
  by_cases h0 : n = 0
  · subst h0
    simp only [Nat.zero_mul, if_true, Sem.run_pure, Result.andThen_ok, e1] at r1 ⊢
    simp only [Sem.run_bind, Sem.run_pure, Result.andThen_ok]
    have e3 : (Array.map (fun x => (#[] : Array Value)[x % (#[] : Array Value).size]!) (Array.range 0)) = (Array.map (fun i => v.cells[i % v.cells.size]!) (Array.range 0)) := by simp
    simp only [Array.range_zero', Array.map_empty] at r1 ⊢
    simp [r1, newRow]
  · have hne : n * z.cells.length ≠ 0 := Nat.mul_ne_zero h0 (by omega)
    simp only [if_neg hne, Sem.run_bind, h1, Result.andThen_ok, Sem.run_pure, e1, r1]
    simp [newRow]

end ops
end Go.Am
