/-
  A part of the proof that the law FnExactSameAdjustments holds (abstract machine, walks, or the join). No conditions.
-/
import Derived.Test.YtdghdngpeidmnaaAmOps5
import Derived.IntWalk
/-! make, stores. -/
namespace Go.Am
set_option linter.unusedVariables false
set_option linter.unusedSimpArgs false

theorem wrap64_id {n : Int} (h0 : -9223372036854775808 ≤ n) (h1 : n ≤ 9223372036854775807) : IntKind.i64.wrap n = n := IntWalk.i64_in n ⟨h0, h1⟩

section ops
variable {P : Program} {E : Entry} {β : Bt} {N : Nat} {a : Act} {w w' : World} {σ : St} {tok : Nat} {x : AV} {H' : Heap} {o : Oper}

theorem op_mks (h : Sim E β N a w σ) (hf : β tok = none) (htok : tok < σ.n) (hE : E.n ≤ tok) {t e : TypeId} {y c : Operand} {y' c' : AO} {z : AV} {inf : TypeInfo}
    (ho : o.op = .makeSlice t y c) (ht : P.underlying t = some (.slice e)) (hz : zeroOf P e = some z) (hi : P.info? e = some inf) (hy : copd y = some y') (hc : copd c = some c') {k1 k2 : IntKind} {l cp : Int}
    (hyv : y'.ev σ.fr = .i k1 l) (hcv : c'.ev σ.fr = .i k2 cp) (h0 : 0 ≤ l) (hlc : l ≤ cp) (h63 : cp ≤ 9223372036854775807) (hb : cp * inf.bytes ≤ maxB) :
    Res E β w σ tok ((execOp a.eval o).run P w) (.rf tok 0 l.toNat) (σ.H.upd tok (z.cells.length, List.replicate l.toNat z)) := by
  obtain ⟨v, h1, h2, h3⟩ := zero_ARep (P := P) hz β (okB E.X β σ.H) w
  obtain ⟨hsz, hpos⟩ := zeroOf_size hz w
  have hl := (hyv ▸ opd_rep h hy : Rep _ _ _ _ (.i k1 l)).i_inv
  have hcp := (hcv ▸ opd_rep h hc : Rep _ _ _ _ (.i k2 cp)).i_inv
  refine res_grew h hf htok hE (w' := { w with heap := w.heap.push (.cells ((Array.range (cp.toNat * z.cells.length)).map fun i => v.cells[i % v.cells.size]!) e) }) (e := e) ⟨rfl, rfl, rfl, rfl⟩ (sz := z.cells.length) (cap := cp.toNat)
    (es := List.replicate l.toNat z) (by simp; omega) (by simp) (by simp only [maxLen]; omega) (zeroRow_rep h2 (by omega)) ?_ (.inr ⟨l.toNat, rfl, rfl, by omega⟩)
  have wl : IntKind.i64.wrap l = l := wrap64_id (by omega) (by omega)
  have wc : IntKind.i64.wrap cp = cp := wrap64_id (by omega) (by omega)
  have hb2 : (inf.bytes : Int) * cp ≤ 140737488355328 := by rw [Int.mul_comm]; simpa [maxB] using hb
  have e48 : (inf.bytes : Int) * cp ≤ 281474976710656 := by omega
  have n1 : ¬ cp < 0 := by omega
  have n2 : ¬ l < 0 := by omega
  have n3 : ¬ l > cp := by omega
  have tl : (decide (cp < 0) || decide ((inf.bytes : Int) * cp > 2 ^ 48)) = false := by simp [n1, e48]
  simp only [execOp, ho, Instr.makeSlice, Sem.run_bind, run_underlying ht, Result.andThen_ok, hl, hcp, asInt, asIntOf, Sem.run_pure, typeInfo, run_program, hi, wl, wc]
  rw [if_neg (by simp [n2, n3]; exact ⟨by omega, e48⟩)]
  simp only [Sem.run_bind, Sem.run_pure, run_askRoom, Result.andThen_ok, hsz]
  by_cases hz0 : cp.toNat = 0
  · have e0 : ∀ f : Nat → Value, Array.map f (Array.range 0) = #[] := fun f => by rw [Array.range_zero', Array.map_empty]
    simp only [hz0, Nat.zero_mul, if_true, Sem.run_bind, Sem.run_pure, Result.andThen_ok, newRow, run_newObj, e0]
  · have hne : cp.toNat * z.cells.length ≠ 0 := Nat.mul_ne_zero hz0 (by omega)
    rw [if_neg hne]
    simp only [Sem.run_bind, h1, Result.andThen_ok, Sem.run_pure]
    simp [newRow]

theorem setCells_get (g : Nat) (e : TypeId) : ∀ (vs : List Value) (of : Nat) (w : World) (cur : Array Value), w.heap[g]? = some (.cells cur e (0, 0)) → (w.setCells g of vs).heap[g]? = some (.cells (splice cur of vs) e (0, 0))
  | [], of, w, cur, h => h
  | v :: r, of, w, cur, h => by
    simp only [World.setCells, splice]
    exact setCells_get g e r (of + 1) _ _ (heap_setCell_same w g of cur e v h)

theorem setCells_other (g : Nat) : ∀ (vs : List Value) (of : Nat) (w : World) (k : Nat), k ≠ g → (w.setCells g of vs).heap[k]? = w.heap[k]?
  | [], of, w, k, h => rfl
  | v :: r, of, w, k, h => by
    simp only [World.setCells]
    rw [setCells_other g r (of + 1) _ k h]
    exact heap_setCell_other w _ k v h

theorem setCells_rest (g : Nat) : ∀ (vs : List Value) (of : Nat) (w : World), (w.setCells g of vs).heap.size = w.heap.size ∧ (w.setCells g of vs).os = w.os ∧ (w.setCells g of vs).tape = w.tape ∧ (w.setCells g of vs).output = w.output
  | [], of, w => ⟨rfl, rfl, rfl, rfl⟩
  | v :: r, of, w => by
    simp only [World.setCells]
    obtain ⟨h1, h2, h3, h4⟩ := setCells_rest g r (of + 1) (w.setCell ⟨g, of, none⟩ v)
    exact ⟨by rw [h1]; simp [World.setCell], h2, h3, h4⟩

theorem wrote_setCells {g : Nat} {e : TypeId} {cur : Array Value} (vs : List Value) (of : Nat) (w : World) (h : w.heap[g]? = some (.cells cur e (0, 0))) : Wrote w (w.setCells g of vs) g (splice cur of vs) e :=
  ⟨setCells_get g e vs of w cur h, fun k hk => setCells_other g vs of w k hk, (setCells_rest g vs of w).1, (setCells_rest g vs of w).2.1, (setCells_rest g vs of w).2.2.1, (setCells_rest g vs of w).2.2.2⟩

theorem oneCell_of {β : Bt} {ok : Nat → Prop} {w : World} {v : Value} {x : AV} (h : Rep β ok w v x) (hx : cellOk x = true) : v.oneCell' = true := by
  cases h <;> first | rfl | (cases hx; done)

theorem run_storeVar_cells {t : TypeId} {v : Value} {g of : Nat} {cur : Array Value} {e : TypeId} (hi : (P.info? t).map (·.size) = some v.cells.size) (hg : w.heap[g]? = some (.cells cur e (0, 0)))
    (hb : of + v.cells.size ≤ cur.size) (h1 : ∀ u ∈ v.cells.toList, u.oneCell' = true) : (storeVar t ⟨g, of, none⟩ v).run P w = .ok () (w.setCells g of v.cells.toList) := by
  have hcell : ∀ k, k < cur.size → w.cell? ⟨g, k, none⟩ = some (cur.getD k undef) := by
    intro k hk
    simp [World.cell?, hg, hk]
  have := run_storeCells_cells (P := P) g of v.cells.toList 0 w
    (fun j hj => by rw [hcell _ (by simp at hj; omega)]; rfl)
    (fun j hj => by simp [World.frozen?, hg]) h1
  cases hq : P.info? t with
  | none => simp [hq] at hi
  | some i =>
    have hs : v.cells.size = i.size := by simp [hq] at hi; omega
    simp only [Nat.add_zero] at this
    simp [storeVar, sizeOf, typeInfo, hq, hs, this]

theorem remake_cells {e : AV} {cs : List AV} (hl : cs.length = e.cells.length) (hc : (∀ es, e ≠ .agg es) → ∀ y ∈ cs, ∀ ds, y ≠ .agg ds) : (e.remake cs).cells = cs := by
  cases e <;> first | rfl | skip
  all_goals
    simp only [AV.remake]
    have h1 : cs.length = 1 := hl
    obtain ⟨y, rfl⟩ := List.length_eq_one_iff.1 h1
    have := hc (by intro es h; cases h) y (by simp)
    simp only [List.headD_cons]
    cases y <;> first | rfl | skip
    exact absurd rfl (this _)

theorem fillOne_mem {cs : List AV} {of : Nat} {vs : List AV} {y : AV} (h : y ∈ fillOne cs of vs) : y ∈ cs ∨ y ∈ vs := by
  simp only [fillOne, List.mem_append] at h
  rcases h with (h | h) | h
  · exact .inl (List.mem_of_mem_take h)
  · exact .inr h
  · exact .inl (List.mem_of_mem_drop h)

theorem op_st (h : Sim E β N a w σ) {t : TypeId} {y z : Operand} {y' z' : AO} {s : Option Nat} (ho : o.op = .store t y z) (ht : ldOf P t = some s) (hy : copd y = some y') (hz : copd z = some z')
    {u i of : Nat} (hyv : y'.ev σ.fr = .ad u i of) {zz : Nat} {es : List AV} (hes : σ.H u = some (zz, es)) {e : AV} (he : es[i]? = some e) (hl : (z'.ev σ.fr).cells.length = s.getD 1) (hle : of + (z'.ev σ.fr).cells.length ≤ e.cells.length)
    (hall : (z'.ev σ.fr).cells.all cellOk = true) :
    Res E β w σ tok ((execOp a.eval o).run P w) .top (σ.H.upd u (zz, es.set i (e.remake (fillOne e.cells of (z'.ev σ.fr).cells)))) := by
  obtain ⟨p, hp, hv⟩ := (hyv ▸ opd_rep h hy : Rep _ _ _ _ (.ad u i of)).ad_inv
  have hzr := opd_rep h hz
  have hnt : z'.ev σ.fr ≠ .top := by intro e; rw [e] at hall; simp [AV.cells, cellOk] at hall
  have hA := cells_rep hzr hnt
  obtain ⟨p', hp', hd, hzz, hlen, hx⟩ := h.hs.dom _ _ hes
  dsimp only at hzz hlen hx
  rw [hp] at hp'; cases hp'
  obtain ⟨hxx, cur, e0, hg, hcs, hcap⟩ := h.hs.blk _ _ hp
  have hi : i < es.length := (List.getElem?_eq_some_iff.1 he).1
  have hesz : e.cells.length = p.sz := (hx _ _ he).1
  have hrow : (i + 1) * p.sz ≤ p.cap * p.sz := Nat.mul_le_mul_right _ (by omega)
  rw [Nat.add_mul] at hrow
  have hone : ∀ q ∈ (a.eval z).cells.toList, q.oneCell' = true := by
    intro q hq
    obtain ⟨j, hj, rfl⟩ := List.getElem_of_mem hq
    have hj2 : j < (z'.ev σ.fr).cells.length := by rw [← hA.1]; simpa using hj
    have hr := hA.2 j _ (List.getElem?_eq_getElem hj2)
    rw [Array.getElem?_eq_getElem (by simpa using hj)] at hr
    simpa using oneCell_of hr (List.all_eq_true.1 hall _ (List.getElem_mem hj2))
  have hinfo : (P.info? t).map (·.size) = some (a.eval z).cells.size := by
    rw [hA.1, hl]
    unfold ldOf at ht
    split at ht
    · rename_i k hk
      cases ht
      obtain ⟨inf, d, g1, g2, _⟩ := tyOf_info hk
      simp [g1, g2]
    · rename_i hk
      cases ht
      obtain ⟨inf, d, g1, g2, _⟩ := tyOf_info hk
      simp [g1, g2]
    · cases ht
  have hbnd : i * p.sz + of + (a.eval z).cells.size ≤ cur.size := by rw [hA.1, hcs]; omega
  have hst := run_storeVar_cells (P := P) (t := t) (g := p.g) (of := i * p.sz + of) hinfo hg hbnd hone
  have hw := wrote_setCells (a.eval z).cells.toList (i * p.sz + of) w hg
  -- the new cells stand for the new elements
  have hfl := fillOne_length e.cells of (z'.ev σ.fr).cells hle
  have hnew : CellsRep β (okB E.X β σ.H) w (splice cur (i * p.sz + of) (a.eval z).cells.toList) p.sz (es.set i (e.remake (fillOne e.cells of (z'.ev σ.fr).cells))) := by
    have hrc : (e.remake (fillOne e.cells of (z'.ev σ.fr).cells)).cells = fillOne e.cells of (z'.ev σ.fr).cells := by
      refine remake_cells hfl fun hne y hy ds hyd => ?_
      rcases fillOne_mem hy with h1 | h1
      · have : e.cells = [e] := by cases e <;> first | rfl | exact absurd rfl (hne _)
        rw [this] at h1; simp at h1; subst h1; exact hne ds hyd
      · have := List.all_eq_true.1 hall _ h1; rw [hyd] at this; cases this
    have old : ∀ (k : Nat) (q : AV) (j : Nat) (r : AV), es[k]? = some q → q.cells[j]? = some r → ∃ v, cur[k * p.sz + j]? = some v ∧ Rep β (okB E.X β σ.H) w v r := by
      intro k q j r hk hj
      obtain ⟨v, hv, hr⟩ := (hx k q hk).2 j r hj
      refine ⟨v, ?_, hr⟩
      simpa [World.cell?, hg] using hv
    intro k q hq
    by_cases hk : i = k
    · subst hk
      rw [List.getElem?_set_self hi] at hq; cases hq
      refine ⟨by rw [hrc, hfl, hesz], fun j r hr => ?_⟩
      rw [hrc, fillOne_get _ _ _ hle] at hr
      have hrowj : ∀ j, j < p.sz → i * p.sz + j < cur.size := fun j hj => by rw [hcs]; omega
      rw [splice_get]
      by_cases hc : of ≤ j ∧ j < of + (z'.ev σ.fr).cells.length
      · rw [if_pos hc] at hr
        rw [if_pos (by have := hA.1; have := hrowj j (by omega); simp; omega)]
        have hlt : j - of < (a.eval z).cells.size := by rw [hA.1]; omega
        have hr' := hA.2 _ _ hr
        rw [Array.getElem?_eq_getElem hlt] at hr'
        exact ⟨(a.eval z).cells[j - of], by rw [show i * p.sz + j - (i * p.sz + of) = j - of by omega]; simp [hlt], hr'⟩
      · rw [if_neg hc] at hr
        rw [if_neg (by have := hA.1; simp; omega)]
        exact old i e j r he hr
    · rw [List.getElem?_set_ne hk] at hq
      refine ⟨(hx k q hq).1, fun j r hr => ?_⟩
      have hj : j < p.sz := by rw [← (hx k q hq).1]; exact (List.getElem?_eq_some_iff.1 hr).1
      have := row_ne (sz := p.sz) (Ne.symm hk) hj
      rw [splice_get, if_neg (by have := hA.1; simp; omega)]
      exact old k q j r hq hr
  refine ⟨.skip, undef, w.setCells p.g (i * p.sz + of) (a.eval z).cells.toList, β, ?_, .inr ⟨rfl, rfl⟩, h.hs.wrote hw hes hp (by rw [splice_size]; exact hcs) hzz (by simpa using hlen) hnew, hw.stp hes hp, h.cx.wrote hw hes hp, .top _, fun _ _ hb => hb⟩
  simp [execOp, ho, hv, Instr.storeAt, Instr.sureAddr, hst]

end ops
end Go.Am
