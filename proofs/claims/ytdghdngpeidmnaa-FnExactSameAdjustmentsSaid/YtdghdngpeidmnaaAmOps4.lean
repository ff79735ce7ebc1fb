/-
  A part of the proof that the law FnExactSameAdjustments holds (abstract machine, walks, or the join). No conditions.
-/
import Derived.Test.YtdghdngpeidmnaaAmOps3
/-! The operations that make or write memory. -/
namespace Go.Am
set_option linter.unusedVariables false
set_option linter.unusedSimpArgs false

/-- Values laid over an array from a place on. -/
def splice (cur : Array Value) (o : Nat) : List Value → Array Value
  | [] => cur
  | v :: r => splice (cur.setIfInBounds o v) (o + 1) r

theorem splice_size : ∀ (vs : List Value) (cur : Array Value) (o : Nat), (splice cur o vs).size = cur.size
  | [], _, _ => rfl
  | v :: r, cur, o => by rw [splice, splice_size r]; simp

theorem splice_get : ∀ (vs : List Value) (cur : Array Value) (o k : Nat), (splice cur o vs)[k]? = if o ≤ k ∧ k < o + vs.length ∧ k < cur.size then vs[k - o]? else cur[k]?
  | [], cur, o, k => by simp only [splice, List.length_nil]; rw [if_neg (by omega)]
  | v :: r, cur, o, k => by
    rw [splice, splice_get r]
    simp only [Array.size_setIfInBounds, List.length_cons]
    by_cases h : o = k
    · subst h
      rw [if_neg (by omega)]
      by_cases hk : o < cur.size
      · rw [if_pos (by omega)]; simp [hk]
      · rw [if_neg (by omega), Array.getElem?_eq_none (by simp; omega), Array.getElem?_eq_none (by omega)]
    · rw [Array.getElem?_setIfInBounds_ne h]
      by_cases h2 : o + 1 ≤ k ∧ k < o + 1 + r.length ∧ k < cur.size
      · rw [if_pos h2, if_pos (by omega)]
        have : k - o = (k - (o + 1)) + 1 := by omega
        rw [this]; simp
      · rw [if_neg h2, if_neg (by omega)]

theorem foldl_splice : ∀ (vs : List Value) (s o : Nat) (cur : Array Value), (vs.zipIdx s).foldl (fun cs (p : Value × Nat) => cs.setIfInBounds (o + p.2) p.1) cur = splice cur (o + s) vs
  | [], _, _, _ => rfl
  | v :: r, s, o, cur => by
    simp only [List.zipIdx_cons, List.foldl_cons, splice]
    rw [foldl_splice r (s + 1) o, Nat.add_assoc]

theorem fill_step (place : Nat → Option (Nat × Nat)) (cells : Array Value) (i : Nat) (v : Value) (rest : List (Nat × Value)) {off size : Nat} (hp : place i = some (off, size))
    (h1 : v.cells.size = size) (h2 : off + v.cells.size ≤ cells.size) : Instr.fill place cells ((i, v) :: rest) = Instr.fill place (splice cells off v.cells.toList) rest := by
  simp only [Instr.fill, hp]
  rw [if_neg (by simp; omega)]
  congr 1
  rw [← Array.foldl_toList, Array.toList_zipIdx]
  simpa using foldl_splice v.cells.toList 0 off cells

/-- Cells that stand for cells. -/
def ARep (β : Bt) (ok : Nat → Prop) (w : World) (vs : Array Value) (cs : List AV) : Prop :=
  vs.size = cs.length ∧ ∀ (j : Nat) (y : AV), cs[j]? = some y → Rep β ok w ((vs[j]?).getD undef) y

theorem cells_rep {β : Bt} {ok : Nat → Prop} {w : World} {v : Value} {x : AV} (h : Rep β ok w v x) (hx : x ≠ .top) : ARep β ok w v.cells x.cells := by
  have one : ∀ {v : Value} {x : AV}, Rep β ok w v x → v.cells = #[v] → x.cells = [x] → ARep β ok w v.cells x.cells := by
    intro v x h h1 h2
    rw [h1, h2]
    refine ⟨rfl, fun j y hj => ?_⟩
    cases j with
    | zero => simp at hj; subst hj; simpa using h
    | succ j => simp at hj
  cases h with
  | top v => exact absurd rfl hx
  | b x => exact one (.b x) rfl rfl
  | i k m => exact one (.i k m) rfl rfl
  | s x => exact one (.s x) rfl rfl
  | agg vs cs hl h => exact ⟨hl, h⟩
  | tup vs cs hl h => exact one (.tup vs cs hl h) rfl rfl
  | nl => exact one .nl rfl rfl
  | sl0 t a c => exact one (.sl0 t a c) rfl rfl
  | sl g o c sz t xs cv a1 a2 a3 a4 a5 a6 a7 => exact one (.sl g o c sz t xs cv a1 a2 a3 a4 a5 a6 a7) rfl rfl
  | rf t s m a c p a1 a2 a3 a4 => exact one (.rf t s m a c p a1 a2 a3 a4) rfl rfl
  | pr e o g b cv a1 a2 a3 a4 => exact one (.pr e o g b cv a1 a2 a3 a4) rfl rfl
  | ad t i o p hp => exact one (.ad t i o p hp) rfl rfl
  | fn f caps vs hl h => exact one (.fn f caps vs hl h) rfl rfl

theorem fillOne_get (cs : List AV) (o : Nat) (vs : List AV) (h : o + vs.length ≤ cs.length) (k : Nat) :
    (fillOne cs o vs)[k]? = if o ≤ k ∧ k < o + vs.length then vs[k - o]? else cs[k]? := by
  unfold fillOne
  by_cases h1 : k < o
  · rw [if_neg (by omega), List.append_assoc, List.getElem?_append_left (by simp; omega)]
    simp [List.getElem?_take, h1]
  · by_cases h2 : k < o + vs.length
    · rw [if_pos (by omega), List.append_assoc, List.getElem?_append_right (by simp; omega), List.getElem?_append_left (by simp; omega)]
      congr 1; simp; omega
    · rw [if_neg (by omega), List.append_assoc, List.getElem?_append_right (by simp; omega), List.getElem?_append_right (by simp; omega), List.getElem?_drop]
      congr 1; simp; omega

theorem fillOne_length (cs : List AV) (o : Nat) (vs : List AV) (h : o + vs.length ≤ cs.length) : (fillOne cs o vs).length = cs.length := by
  simp [fillOne]; omega

theorem ARep.splice {β : Bt} {ok : Nat → Prop} {w : World} {us vs : Array Value} {cs ds : List AV} (h : ARep β ok w us cs) (h2 : ARep β ok w vs ds) {o : Nat} (hl : o + ds.length ≤ cs.length) :
    ARep β ok w (splice us o vs.toList) (fillOne cs o ds) := by
  refine ⟨by rw [splice_size, fillOne_length _ _ _ hl]; exact h.1, fun j y hj => ?_⟩
  rw [fillOne_get _ _ _ hl] at hj
  rw [splice_get]
  have e1 := h.1
  have e2 := h2.1
  by_cases hc : o ≤ j ∧ j < o + ds.length
  · rw [if_pos hc] at hj
    rw [if_pos (by simp; omega)]
    simpa using h2.2 _ _ hj
  · rw [if_neg hc] at hj
    rw [if_neg (by simp; omega)]
    exact h.2 _ _ hj

section ops
variable {P : Program} {E : Entry} {β : Bt} {N : Nat} {a : Act} {w w' : World} {σ : St} {tok : Nat} {x : AV} {H' : Heap} {o : Oper}

/-- A new block is what an operation makes. -/
theorem res_grew (h : Sim E β N a w σ) (hf : β tok = none) (htok : tok < σ.n) (hE : E.n ≤ tok) {c : Array Value} {e : TypeId} (hg : Grew w w' c e) {sz cap : Nat} {es : List AV} (hl : es.length ≤ cap)
    (hcs : c.size = cap * sz) (hm : cap ≤ maxLen) (hc : CellsRep β (okB E.X β σ.H) w c sz es) {v : Value} {r : Result Next} (hr : r = .ok (.value v) w')
    (hv : (v = .pointer (some ⟨w.heap.size, 0, none⟩) ∧ x = .ad tok 0 0) ∨ (∃ n, v = .slice (some ⟨w.heap.size, 0, none⟩) n cap ∧ x = .rf tok 0 n ∧ n ≤ cap)) :
    Res E β w σ tok r x (σ.H.upd tok (sz, es)) := by
  refine ⟨_, v, w', β.upd tok ⟨w.heap.size, sz, cap, false⟩, hr, .inl rfl, h.hs.grew hg sz cap es hf htok hl hcs hm hc, h.hs.grew_stp hg _ (sz, es) rfl hf, h.cx.grew hg _ (sz, es) rfl hf hE, ?_, ?_⟩
  · rcases hv with ⟨rfl, rfl⟩ | ⟨n, rfl, rfl, hn⟩
    · have := Rep.ad (ok := okB E.X (β.upd tok ⟨w.heap.size, sz, cap, false⟩) (σ.H.upd tok (sz, es))) (w := w') tok 0 0 _ (Bt.upd_self β tok ⟨w.heap.size, sz, cap, false⟩)
      simpa using this
    · exact .rf tok 0 n _ _ ⟨w.heap.size, sz, cap, false⟩ (Bt.upd_self _ _ _) (fun _ => by simp) hn (fun _ => rfl)
  · intro u hu hb
    rw [Bt.upd_ne β _ hu]; exact hb

theorem one_CellsRep {β : Bt} {ok : Nat → Prop} {w : World} {c : Array Value} {z : AV} (h : ARep β ok w c z.cells) : CellsRep β ok w c z.cells.length [z] := by
  intro i y hy
  cases i with
  | zero =>
    simp at hy; subst hy
    refine ⟨rfl, fun j q hq => ?_⟩
    have hlt : j < c.size := by rw [h.1]; exact (List.getElem?_eq_some_iff.1 hq).1
    refine ⟨c[j], by simp [hlt], ?_⟩
    have := h.2 j q hq
    rwa [Array.getElem?_eq_getElem hlt] at this
  | succ i => simp at hy

theorem zeroOf_info {t : TypeId} {z : AV} (h : zeroOf P t = some z) : ∃ i v, P.info? t = some i ∧ i.zero = some v ∧ cval v = some z ∧ z.cells.length = i.size ∧ v.cells.size = i.size ∧ 0 < i.size := by
  unfold zeroOf at h
  split at h
  · rename_i i hi
    split at h
    · rename_i v hv
      split at h
      · rename_i y hy
        split at h
        · rename_i hc; cases h; exact ⟨i, v, hi, hv, hy, hc⟩
        · cases h
      · cases h
    · cases h
  · cases h

theorem zero_ARep {t : TypeId} {z : AV} (h : zeroOf P t = some z) (β : Bt) (ok : Nat → Prop) (w : World) : ∃ v, (zeroValue t).run P w = .ok v w ∧ ARep β ok w v.cells z.cells ∧ v.cells.size = z.cells.length := by
  obtain ⟨i, v, h1, h2, h3, h4, h5, h6⟩ := zeroOf_info h
  obtain ⟨r1, r2, r3⟩ := cval_rep h3 β ok w
  refine ⟨v, by simp [zeroValue, typeInfo, h1, h2], ⟨r2, fun j y hj => ?_⟩, r2⟩
  obtain ⟨u, hu, hr⟩ := r3 j y hj
  simpa [hu] using hr

theorem op_new (h : Sim E β N a w σ) (hf : β tok = none) (htok : tok < σ.n) (hE : E.n ≤ tok) {t : TypeId} {z : AV} (ho : o.op = .alloc t) (hz : zeroOf P t = some z) :
    Res E β w σ tok ((execOp a.eval o).run P w) (.ad tok 0 0) (σ.H.upd tok (z.cells.length, [z])) := by
  obtain ⟨v, h1, h2, h3⟩ := zero_ARep (P := P) hz β (okB E.X β σ.H) w
  refine res_grew h hf htok hE (w' := { w with heap := w.heap.push (.cells v.cells t) }) (c := v.cells) (e := t) ⟨rfl, rfl, rfl, rfl⟩ (sz := z.cells.length) (cap := 1) (es := [z]) (Nat.le_refl 1)
    (by omega) (by simp [maxLen]) (one_CellsRep h2) ?_ (.inl ⟨rfl, rfl⟩)
  simp [execOp, ho, Instr.alloc, h1, newVar, newRow]

theorem op_box (h : Sim E β N a w σ) (hf : β tok = none) (htok : tok < σ.n) (hE : E.n ≤ tok) {t : TypeId} {y : Operand} {y' : AO} (ho : o.op = .box t y) (hy : copd y = some y') (hx : y'.ev σ.fr ≠ .top) :
    Res E β w σ tok ((execOp a.eval o).run P w) (.ad tok 0 0) (σ.H.upd tok ((y'.ev σ.fr).cells.length, [y'.ev σ.fr])) := by
  have h2 := cells_rep (opd_rep h hy) hx
  refine res_grew h hf htok hE (w' := { w with heap := w.heap.push (.cells (a.eval y).cells t) }) (c := (a.eval y).cells) (e := t) ⟨rfl, rfl, rfl, rfl⟩ (sz := (y'.ev σ.fr).cells.length) (cap := 1) (es := [y'.ev σ.fr]) (Nat.le_refl 1)
    (by rw [h2.1]; omega) (by simp [maxLen]) (one_CellsRep h2) ?_ (.inl ⟨rfl, rfl⟩)
  simp [execOp, ho, Instr.box, newVar, newRow]

theorem isTop_ne {v : AV} (h : v.isTop = false) : v ≠ .top := by intro e; subst e; cases h

/-- The parts of a struct. -/
theorem fillS_run (h : Sim E β N a w σ) (place : Nat → Option (Nat × Nat)) : ∀ (ps : List (Nat × Operand)) (qs : List (Nat × Nat × AO)) (us : Array Value) (cs ds : List AV),
    qs.length = ps.length → (∀ (k : Nat) (i : Nat) (y : Operand) (of s : Nat) (y' : AO), ps[k]? = some (i, y) → qs[k]? = some (of, s, y') → place i = some (of, s) ∧ copd y = some y') →
    ARep β (okB E.X β σ.H) w us cs → fillS σ.fr cs qs = some ds → ∃ vs, Instr.fill place us (ps.map fun p => (p.1, a.eval p.2)) = some vs ∧ ARep β (okB E.X β σ.H) w vs ds
  | [], [], us, cs, ds, _, _, hA, hf => by cases hf; exact ⟨us, rfl, hA⟩
  | [], _ :: _, _, _, _, hl, _, _, _ => by simp at hl
  | _ :: _, [], _, _, _, hl, _, _, _ => by simp at hl
  | (i, y) :: ps, (of, s, y') :: qs, us, cs, ds, hl, hp, hA, hf => by
    obtain ⟨h1, h2⟩ := hp 0 i y of s y' rfl rfl
    simp only [fillS] at hf
    split at hf
    · rename_i hc
      have hr := cells_rep (opd_rep h h2) (isTop_ne hc.1)
      simp only [List.map_cons]
      rw [fill_step place us i (a.eval y) _ h1 (by rw [hr.1]; exact hc.2.1) (by rw [hr.1, hA.1]; omega)]
      refine fillS_run h place ps qs _ _ ds (by simpa using hl) (fun k i y of s y' q1 q2 => hp (k + 1) i y of s y' (by simpa using q1) (by simpa using q2)) (hA.splice hr (by omega)) hf
    · cases hf

theorem partsS_spec {fs : Array Field} : ∀ {ps : List (Nat × Operand)} {qs : List (Nat × Nat × AO)}, partsS P fs ps = some qs → qs.length = ps.length ∧
    ∀ (k i : Nat) (y : Operand) (of s : Nat) (y' : AO), ps[k]? = some (i, y) → qs[k]? = some (of, s, y') → (∃ f b, fs[i]? = some f ∧ f.offset = of ∧ tyOf P f.type = some (b, s)) ∧ copd y = some y'
  | [], qs, hp => by cases hp; exact ⟨rfl, fun k i y of s y' h1 => by simp at h1⟩
  | (i, y) :: r, qs, hp => by
    simp only [partsS] at hp
    split at hp
    · rename_i f z l hf hz hl
      split at hp
      · rename_i b s hs
        cases hp
        have ih := partsS_spec hl
        refine ⟨by simp [ih.1], fun k i2 y2 of s2 y' h1 h2 => ?_⟩
        cases k with
        | zero => simp at h1 h2; obtain ⟨rfl, rfl⟩ := h1; obtain ⟨rfl, rfl, rfl⟩ := h2; exact ⟨⟨f, b, hf, rfl, hs⟩, hz⟩
        | succ k => exact ih.2 k i2 y2 of s2 y' (by simpa using h1) (by simpa using h2)
      · cases hp
    · cases hp

theorem partsA_spec {sz : Nat} : ∀ {ps : List (Nat × Operand)} {qs : List (Nat × Nat × AO)}, partsA sz ps = some qs → qs.length = ps.length ∧
    ∀ (k i : Nat) (y : Operand) (of s : Nat) (y' : AO), ps[k]? = some (i, y) → qs[k]? = some (of, s, y') → (of = i * sz ∧ s = sz) ∧ copd y = some y'
  | [], qs, hp => by cases hp; exact ⟨rfl, fun k i y of s y' h1 => by simp at h1⟩
  | (i, y) :: r, qs, hp => by
    simp only [partsA] at hp
    split at hp
    · rename_i z l hz hl
      cases hp
      have ih := partsA_spec hl
      refine ⟨by simp [ih.1], fun k i2 y2 of s2 y' h1 h2 => ?_⟩
      cases k with
      | zero => simp at h1 h2; obtain ⟨rfl, rfl⟩ := h1; obtain ⟨rfl, rfl, rfl⟩ := h2; exact ⟨⟨rfl, rfl⟩, hz⟩
      | succ k => exact ih.2 k i2 y2 of s2 y' (by simpa using h1) (by simpa using h2)
    · cases hp

theorem run_mapM_list : ∀ (fs : List Field) (hall : ∀ f ∈ fs, (tyOf P f.type).isSome = true) (w : World),
    ∃ places : List (Nat × Nat), (fs.mapM fun f => do pure (f.offset, ← sizeOf f.type) : Sem (List (Nat × Nat))).run P w = .ok places w ∧
      ∀ (i : Nat) (f : Field) (b : Bool) (s : Nat), fs[i]? = some f → tyOf P f.type = some (b, s) → places[i]? = some (f.offset, s)
  | [], _, w => ⟨[], by simp, fun i f b s h => by simp at h⟩
  | f :: r, hall, w => by
    obtain ⟨pl, h1, h2⟩ := run_mapM_list r (fun g hg => hall g (by simp [hg])) w
    have hf := hall f (by simp)
    cases ht : tyOf P f.type with
    | none => rw [ht] at hf; cases hf
    | some bs =>
      obtain ⟨b, s⟩ := bs
      refine ⟨(f.offset, s) :: pl, ?_, fun i g b' s' hg hs => ?_⟩
      · simp only [List.mapM_cons, Sem.run_bind, run_sizeOf_ty ht, Result.andThen_ok, Sem.run_pure, h1]
      · cases i with
        | zero => simp at hg; subst hg; rw [ht] at hs; cases hs; rfl
        | succ i => simpa using h2 i g b' s' (by simpa using hg) hs

theorem run_mapM_places (fs : Array Field) (hall : fs.toList.all (fun f => (tyOf P f.type).isSome) = true) (w : World) :
    ∃ places : Array (Nat × Nat), (fs.mapM fun f => do pure (f.offset, ← sizeOf f.type) : Sem (Array (Nat × Nat))).run P w = .ok places w ∧
      ∀ (i : Nat) (f : Field) (b : Bool) (s : Nat), fs[i]? = some f → tyOf P f.type = some (b, s) → places[i]? = some (f.offset, s) := by
  obtain ⟨pl, h1, h2⟩ := run_mapM_list (P := P) fs.toList (fun f hf => (List.all_eq_true.1 hall) f hf) w
  refine ⟨pl.toArray, ?_, fun i f b s hf hs => by simpa using h2 i f b s (by simpa using hf) hs⟩
  rw [Array.mapM_eq_mapM_toList, Sem.run_map, h1]
  rfl

theorem op_bldS (h : Sim E β N a w σ) {t : TypeId} {fs : Array Field} {ps : Array (Nat × Operand)} {z : AV} {qs : List (Nat × Nat × AO)} {ds : List AV} (ho : o.op = .build t ps) (ht : P.underlying t = some (.struct fs))
    (hz : zeroOf P t = some z) (hall : fs.toList.all (fun f => (tyOf P f.type).isSome) = true) (hq : partsS P fs ps.toList = some qs) (hf : fillS σ.fr z.cells qs = some ds) :
    Res E β w σ tok ((execOp a.eval o).run P w) (.agg ds) σ.H := by
  obtain ⟨v, h1, h2, h3⟩ := zero_ARep (P := P) hz β (okB E.X β σ.H) w
  obtain ⟨l1, l2⟩ := partsS_spec hq
  obtain ⟨pl, p1, p2⟩ := run_mapM_places (P := P) fs hall w
  obtain ⟨vs, r1, r2⟩ := fillS_run h (fun i => pl[i]?) ps.toList qs v.cells z.cells ds l1 (fun k i y of s y' q1 q2 => by
    obtain ⟨⟨f, b, hf, rfl, hs⟩, hc⟩ := l2 k i y of s y' q1 q2; exact ⟨p2 i f b s hf hs, hc⟩) h2 hf
  refine res_pure h (v := .agg vs) ?_ (.agg vs ds r2.1 r2.2)
  have e1 : (ps.map fun p => (p.1, a.eval p.2)).toList = ps.toList.map fun p => (p.1, a.eval p.2) := by simp
  simp only [execOp, ho, Instr.build, Sem.run_bind, h1, Result.andThen_ok, run_underlying ht]
  rw [p1]
  simp only [Result.andThen_ok, e1, r1, Sem.run_pure]

theorem op_bldA (h : Sim E β N a w σ) {t e : TypeId} {n : Nat} {ps : Array (Nat × Operand)} {z : AV} {s : Nat} {b : Bool} {qs : List (Nat × Nat × AO)} {ds : List AV} (ho : o.op = .build t ps) (ht : P.underlying t = some (.array n e))
    (hz : zeroOf P t = some z) (hs : tyOf P e = some (b, s)) (hq : partsA s ps.toList = some qs) (hf : fillS σ.fr z.cells qs = some ds) : Res E β w σ tok ((execOp a.eval o).run P w) (.agg ds) σ.H := by
  obtain ⟨v, h1, h2, h3⟩ := zero_ARep (P := P) hz β (okB E.X β σ.H) w
  obtain ⟨l1, l2⟩ := partsA_spec hq
  obtain ⟨vs, r1, r2⟩ := fillS_run h (fun i => some (i * s, s)) ps.toList qs v.cells z.cells ds l1 (fun k i y of s' y' q1 q2 => by
    obtain ⟨⟨rfl, rfl⟩, hc⟩ := l2 k i y of s' y' q1 q2; exact ⟨rfl, hc⟩) h2 hf
  refine res_pure h (v := .agg vs) ?_ (.agg vs ds r2.1 r2.2)
  have e1 : (ps.map fun p => (p.1, a.eval p.2)).toList = ps.toList.map fun p => (p.1, a.eval p.2) := by simp
  simp only [execOp, ho, Instr.build, Sem.run_bind, h1, Result.andThen_ok, run_underlying ht, run_sizeOf_ty hs]
  simp only [e1, r1, Sem.run_pure, Result.andThen_ok]

end ops
end Go.Am
