/-
  A part of the proof that the law FnExactSameAdjustments holds (abstract machine, walks, or the join). No conditions.
-/
import Derived.Test.YtdghdngpeidmnaaAmOps6
/-! append. -/
namespace Go.Am
set_option linter.unusedVariables false
set_option linter.unusedSimpArgs false

section ops
variable {P : Program} {E : Entry} {β : Bt} {N : Nat} {a : Act} {w w' : World} {σ : St} {tok : Nat} {x : AV} {H' : Heap} {o : Oper}

/-- The elements of a slice value, as the machine reads them. -/
theorem elems_run {H : Heap} {n : Nat} (hs : HSim E.X β w H n) {v : Value} {y : AV} (hv : Rep β (okB E.X β H) w v y) {ys : List AV} (he : elems H y = some ys) {sz : Nat}
    (hsz : ∀ q ∈ ys, q.cells.length = sz) :
    ∃ ad c news, v = .slice ad ys.length c ∧ (Builtin.firstCells sz ys.length v).run P w = .ok news w ∧ news.size = ys.length * sz ∧ CellsRep β (okB E.X β H) w news sz ys ∧ ((∀ q ∈ ys, q.cells.all cellOk = true) → ∀ u ∈ news.toList, u.oneCell' = true) := by
  -- from cells that lie in a row
  have key : ∀ (g b c : Nat), (∀ (i : Nat) (q : AV) (j : Nat) (r : AV), ys[i]? = some q → q.cells[j]? = some r → ∃ u, w.cell? ⟨g, b + i * sz + j, none⟩ = some u ∧ Rep β (okB E.X β H) w u r) →
      ∃ news, (Builtin.firstCells sz ys.length (.slice (some ⟨g, b, none⟩) ys.length c)).run P w = .ok news w ∧ news.size = ys.length * sz ∧ CellsRep β (okB E.X β H) w news sz ys ∧ ((∀ q ∈ ys, q.cells.all cellOk = true) → ∀ u ∈ news.toList, u.oneCell' = true) := by
    intro g b c hc
    have hrow : ∀ k, k < ys.length * sz → ∃ (i : Nat) (q : AV) (j : Nat) (r : AV), k = i * sz + j ∧ ys[i]? = some q ∧ q.cells[j]? = some r ∧ j < sz := by
      intro k hk
      have h0 : 0 < sz := by rcases Nat.eq_zero_or_pos sz with h | h; · subst h; omega
                             · exact h
      have hi : k / sz < ys.length := Nat.div_lt_of_lt_mul (by rw [Nat.mul_comm]; exact hk)
      have hj : k % sz < sz := Nat.mod_lt _ h0
      have hq := hsz _ (List.getElem_mem hi)
      have hj2 : k % sz < (ys[k / sz]).cells.length := by rw [hq]; exact hj
      exact ⟨k / sz, ys[k / sz], k % sz, _, by rw [Nat.mul_comm]; exact (Nat.div_add_mod k sz).symm, List.getElem?_eq_getElem hi, List.getElem?_eq_getElem hj2, hj⟩
    let L := cellsAt w g b (ys.length * sz)
    have hlen : L.length = ys.length * sz := by simp [L, cellsAt]
    have hget : ∀ k, k < ys.length * sz → ∃ u, L[k]? = some u ∧ w.cell? ⟨g, b + k, none⟩ = some u := by
      intro k hk
      obtain ⟨i, q, j, r, rfl, h1, h2, _⟩ := hrow k hk
      obtain ⟨u, hu, _⟩ := hc i q j r h1 h2
      rw [Nat.add_assoc] at hu
      exact ⟨u, by simp [L, cellsAt, hk, hu], hu⟩
    refine ⟨L.toArray, ?_, by simp [hlen], ?_, ?_⟩
    · have := run_loadCells_list (P := P) w ⟨g, b, none⟩ L (fun j v hv => by
        have hj : j < ys.length * sz := by rw [← hlen]; exact (List.getElem?_eq_some_iff.1 hv).1
        obtain ⟨u, h1, h2⟩ := hget j hj
        rw [hv] at h1; cases h1
        rw [Addr.add_mid]; exact h2)
      rw [hlen] at this
      simpa [Builtin.firstCells] using this
    · intro i q hq
      refine ⟨hsz q (List.mem_of_getElem? hq), fun j r hr => ?_⟩
      obtain ⟨u, hu, hrep⟩ := hc i q j r hq hr
      have hj : j < sz := by rw [← hsz q (List.mem_of_getElem? hq)]; exact (List.getElem?_eq_some_iff.1 hr).1
      have hlt := row_lt (List.getElem?_eq_some_iff.1 hq).1 hj
      obtain ⟨u', h1, h2⟩ := hget _ hlt
      rw [← Nat.add_assoc, hu] at h2; cases h2
      exact ⟨u, by simpa using h1, hrep⟩
    · intro hco u hu
      obtain ⟨k, hk, rfl⟩ := List.getElem_of_mem hu
      simp only [List.size_toArray, Array.length_toList] at hk
      have hk' : k < ys.length * sz := by rw [← hlen]; simpa using hk
      obtain ⟨u, h1, h2⟩ := hget k hk'
      obtain ⟨i, q, j, r, rfl, g1, g2, _⟩ := hrow k hk'
      obtain ⟨u', g3, g4⟩ := hc i q j r g1 g2
      rw [Nat.add_assoc, h2] at g3; cases g3
      have : L[i * sz + j]? = some L[i * sz + j] := List.getElem?_eq_getElem (by rw [hlen]; exact hk')
      rw [h1] at this; cases this
      exact oneCell_of g4 (List.all_eq_true.1 (hco q (List.mem_of_getElem? g1)) r (List.mem_of_getElem? g2))
  have empty : ∀ (ad : Option Addr) (c : Nat), ys = [] → ∃ news, (Builtin.firstCells sz ys.length (.slice ad ys.length c)).run P w = .ok news w ∧ news.size = ys.length * sz ∧ CellsRep β (okB E.X β H) w news sz ys ∧ ((∀ q ∈ ys, q.cells.all cellOk = true) → ∀ u ∈ news.toList, u.oneCell' = true) := by
    intro ad c h0
    subst h0
    refine ⟨#[], ?_, by simp, fun i q hq => by simp at hq, by simp⟩
    cases ad <;> simp [Builtin.firstCells, loadCells, loadCellsFrom]
  unfold elems at he
  split at he
  · cases he
    obtain ⟨news, h1, h2⟩ := empty none 0 rfl
    exact ⟨none, 0, news, hv.nl_inv, by rw [hv.nl_inv]; exact h1, h2⟩
  · rename_i tg xs
    cases he
    obtain ⟨ad, c, rfl, hc, hx⟩ := hv.sl_inv
    by_cases h0 : ys = []
    · obtain ⟨news, h1, h2⟩ := empty ad c h0
      exact ⟨ad, c, news, rfl, h1, h2⟩
    · obtain ⟨g, b, sz', cv, rfl, hg, hgl, _, hss, hm, hr⟩ := hx h0
      have : sz' = sz := by
        have hpos : 0 < ys.length := List.length_pos_iff.2 h0
        rw [← hss 0 _ (List.getElem?_eq_getElem hpos)]
        exact hsz _ (List.getElem_mem hpos)
      subst this
      obtain ⟨news, h1, h2⟩ := key g b c (fun i q j r hq hj => ⟨cv i j, hm i q j hq (by rw [← hss i q hq]; exact (List.getElem?_eq_some_iff.1 hj).1), hr i q j r hq hj⟩)
      exact ⟨_, c, news, rfl, h1, h2⟩
  · rename_i u st m
    split at he
    · rename_i zz es hes
      split at he
      · rename_i hle
        cases he
        obtain ⟨p, ad, c, hp, rfl, ha, hc, _⟩ := hv.rf_inv
        have hl : ((es.drop st).take m).length = m := by simp; omega
        rw [hl] at empty key ⊢
        by_cases h0 : m = 0
        · obtain ⟨news, h1, h2⟩ := empty ad c (List.length_eq_zero_iff.1 (by omega))
          exact ⟨ad, c, news, rfl, h1, h2⟩
        · have had := ha (.inl h0)
          subst had
          obtain ⟨p', hp', _, _, _, hx⟩ := hs.dom _ _ hes
          rw [hp] at hp'; cases hp'
          have hget : ∀ i q, ((es.drop st).take m)[i]? = some q → es[st + i]? = some q := by
            intro i q hq
            rw [List.getElem?_take] at hq
            split at hq
            · rwa [List.getElem?_drop] at hq
            · cases hq
          have : p.sz = sz := by
            have hpos : 0 < ((es.drop st).take m).length := by omega
            have h1 := hget 0 _ (List.getElem?_eq_getElem hpos)
            rw [← (hx _ _ h1).1]
            exact hsz _ (List.getElem_mem hpos)
          obtain ⟨news, h1, h2⟩ := key p.g (st * p.sz) c (fun i q j r hq hj => by
            obtain ⟨u, hu, hr⟩ := (hx _ _ (hget i q hq)).2 j r hj
            refine ⟨u, ?_, hr⟩
            rw [← hu, ← this]; congr 2; rw [Nat.add_mul])
          exact ⟨_, c, news, rfl, h1, h2⟩
      · cases he
    · cases he
  · cases he

theorem run_append (t u ty e e2 : TypeId) (inf : TypeInfo) (ht : P.underlying t = some (.slice e)) (hu : P.underlying u = some (.slice e2)) (hi : P.info? e = some inf) (base : Option Addr) (sLen sCap n : Nat) (ad : Option Addr) (c : Nat)
    (news : Array Value) (w : World) (hn : (Builtin.firstCells inf.size n (.slice ad n c)).run P w = .ok news w) :
    (sLen + n ≤ sCap → (Builtin.append_ #[t, u] ty #[.slice base sLen sCap, .slice ad n c]).run P w =
      (match base with | some a => (storeCells (a.add (sLen * inf.size)) news.toList).run P w | none => .ok () w).andThen fun _ w => .ok (.slice base (sLen + n) sCap) w) := by
  intro hle
  cases base with
  | none => simp [Builtin.append_, run_underlying ht, run_underlying hu, sizeOf, typeInfo, hi, Builtin.lenOf, hle, hn]
  | some b => simp [Builtin.append_, run_underlying ht, run_underlying hu, sizeOf, typeInfo, hi, Builtin.lenOf, hle, hn]

theorem run_append_grow (t u ty e e2 : TypeId) (inf : TypeInfo) (ht : P.underlying t = some (.slice e)) (hu : P.underlying u = some (.slice e2)) (hi : P.info? e = some inf) (base : Option Addr) (sLen sCap n : Nat) (ad : Option Addr) (c : Nat)
    (old news : Array Value) (z : Value) (w : World) (hz : inf.zero = some z) (hn : (Builtin.firstCells inf.size n (.slice ad n c)).run P w.drew = .ok news w.drew) (ho : (Builtin.firstCells inf.size sLen (.slice base sLen sCap)).run P w.drew = .ok old w.drew)
    (hlt : ¬ sLen + n ≤ sCap) (h63 : sLen + n ≤ 9223372036854775807) (hb : (sLen + n) * inf.bytes ≤ maxB) :
    ∃ cap w', (Builtin.append_ #[t, u] ty #[.slice base sLen sCap, .slice ad n c]).run P w = .ok (.slice (some ⟨w.heap.size, 0, none⟩) (sLen + n) cap) w' ∧
      Grew w w' (old ++ news ++ Builtin.zeroCells z.cells (cap - (sLen + n))) e ∧ sLen + n ≤ cap ∧ cap ≤ maxLen := by
  have hfit : ¬ Builtin.nextslicecap (sLen + n) sCap * inf.bytes > 2 ^ 48 := by
    have := growslice_fits (need := sLen + n) (old := sCap) (bytes := inf.bytes) (by omega) (by simpa [maxB] using hb)
    have e48 : 2 ^ 48 = 281474976710656 := by decide
    omega
  refine ⟨grownCap w (sLen + n) sCap e, w.drew.alloc (.cells (old ++ news ++ Builtin.zeroCells z.cells (grownCap w (sLen + n) sCap e - (sLen + n))) e), ?_, ⟨rfl, rfl, rfl, rfl⟩, grownCap_ge _ _ _ _, grownCap_le_maxLen _ _ _ _ (by simpa [maxLen] using h63)⟩
  have hcond : ¬ ((((sLen + n : Nat) : Int) > IntKind.i64.max) ∧ (false = true ∨ inf.bytes = 0)) := by
    intro ⟨h1, _⟩
    rw [IntKind.max_i64] at h1
    omega
  have h64 : ¬ (9223372036854775807 : Int) < ((sLen : Int) + (n : Int)) := by omega
  have hfit' : ¬ 281474976710656 < Builtin.nextslicecap (sLen + n) sCap * inf.bytes := by
    have e48 : 2 ^ 48 = 281474976710656 := by decide
    omega
  simp [Builtin.append_, run_underlying ht, run_underlying hu, sizeOf, typeInfo, hi, Builtin.lenOf, hlt, h64, hfit', Question.forced, hn, ho, zeroValue, hz, newRow, grownCap]

theorem CellsRep.append {β : Bt} {ok : Nat → Prop} {w : World} {c d r : Array Value} {sz : Nat} {es ys : List AV} (h1 : CellsRep β ok w c sz es) (hc : c.size = es.length * sz) (h2 : CellsRep β ok w d sz ys) :
    CellsRep β ok w (c ++ d ++ r) sz (es ++ ys) := by
  intro i q hq
  by_cases hi : i < es.length
  · rw [List.getElem?_append_left hi] at hq
    obtain ⟨g1, g2⟩ := h1 i q hq
    refine ⟨g1, fun j y hj => ?_⟩
    obtain ⟨v, hv, hr⟩ := g2 j y hj
    have hlt : i * sz + j < c.size := (Array.getElem?_eq_some_iff.1 hv).1
    exact ⟨v, by rw [Array.append_assoc, Array.getElem?_append_left hlt]; exact hv, hr⟩
  · rw [List.getElem?_append_right (by omega)] at hq
    obtain ⟨g1, g2⟩ := h2 _ q hq
    refine ⟨g1, fun j y hj => ?_⟩
    obtain ⟨v, hv, hr⟩ := g2 j y hj
    have hlt : (i - es.length) * sz + j < d.size := (Array.getElem?_eq_some_iff.1 hv).1
    have e : i * sz + j = c.size + ((i - es.length) * sz + j) := by
      rw [hc, ← Nat.add_assoc, ← Nat.add_mul]; congr 2; omega
    refine ⟨v, ?_, hr⟩
    rw [Array.append_assoc, e, Array.getElem?_append_right (by omega), Nat.add_sub_cancel_left, Array.getElem?_append_left hlt]
    exact hv

theorem size_zeroCells' (z : Array Value) (n : Nat) : (Builtin.zeroCells z n).size = n * z.size := by simp [Builtin.zeroCells]

theorem op_app (h : Sim E β N a w σ) (hf : β tok = none) (htok : tok < σ.n) (hE : E.n ≤ tok) {c : Call} {t u e e2 : TypeId} {y z : Operand} {y' z' : AO} {zv : AV} {inf : TypeInfo}
    (ho : o.op = .call c) (hcal : c.callee = .builtin .append) (hargs : c.args.toList = [y, z]) (hts : c.argTypes.toList = [t, u]) (ht : P.underlying t = some (.slice e)) (hu : P.underlying u = some (.slice e2))
    (hzo : zeroOf P e = some zv) (hi : P.info? e = some inf) (hy : copd y = some y') (hz : copd z = some z') (hr : (AOp.app inf.size inf.bytes y' z').run σ.fr σ.H tok = some (x, H')) :
    Res E β w σ tok ((execOp a.eval o).run P w) x H' := by
  have e1 : c.args = #[y, z] := by rw [← hargs]
  have e2' : c.argTypes = #[t, u] := by rw [← hts]
  obtain ⟨inf', vz, g1, g2, g3, g4, g5, g6⟩ := zeroOf_info hzo
  rw [hi] at g1; cases g1
  have run : ∀ v w', (Builtin.append_ #[t, u] o.type #[a.eval y, a.eval z]).run P w = .ok v w' → (execOp a.eval o).run P w = .ok (.value v) w' := by
    intro v w' hv
    simp [execOp, ho, resolve, hcal, e1, e2', invoke, builtin, hv]
  simp only [AOp.run] at hr
  split at hr
  · cases hr
  · rename_i ys hys
    split at hr
    · rename_i hall
      have hszc : ∀ q ∈ ys, q.cells.length = inf.size ∧ q.cells.all cellOk = true := by
        intro q hq
        have := List.all_eq_true.1 hall q hq
        simpa using this
      have hsz : ∀ q ∈ ys, q.cells.length = inf.size := fun q hq => (hszc q hq).1
      obtain ⟨ad, cp, news, hzv, hnews, hnsz, hnrep, hone⟩ := elems_run (P := P) h.hs (opd_rep h hz) hys hsz
      have hd : Same w w.drew := ⟨rfl, rfl, rfl, rfl⟩
      have hsd := h.hs.same hd
      obtain ⟨ad2, cp2, news2, hzv2, hnews2, hnsz2, hnrep2, _⟩ := elems_run (P := P) hsd ((opd_rep h hz).stp (hd.stp β (okB E.X β σ.H))) hys hsz
      rw [hzv] at hzv2
      obtain ⟨rfl, rfl⟩ : ad2 = ad ∧ cp2 = cp := by cases hzv2; exact ⟨rfl, rfl⟩
      rw [hzv] at hnews hnews2
      have hcr : CellsRep β (okB E.X β σ.H) w news2 inf.size ys := by
        intro i q hq
        refine ⟨(hnrep2 i q hq).1, fun j r hj => ?_⟩
        obtain ⟨v, hv, hrr⟩ := (hnrep2 i q hq).2 j r hj
        exact ⟨v, hv, hrr.stp (Same.stp (w := w.drew) (w' := w) ⟨rfl, rfl, rfl, rfl⟩ β _)⟩
      split at hr
      · rename_i hyv
        have hn := (hyv ▸ opd_rep h hy : Rep _ _ _ _ .nl).nl_inv
        split at hr
        · rename_i hemp
          cases hr
          have hy0 : ys = [] := by simpa using hemp
          subst hy0
          have := run_append (P := P) t u o.type e e2 inf ht hu hi none 0 0 0 ad2 cp2 news w hnews (Nat.le_refl 0)
          refine res_pure h (run _ _ ?_) .nl
          rw [hn, hzv]; exact this
        · rename_i hemp
          split at hr
          · rename_i hb
            cases hr
            have hpos : 0 < ys.length := List.length_pos_iff.2 (by simpa using hemp)
            have hold : (Builtin.firstCells inf.size 0 (.slice none 0 0)).run P w.drew = .ok #[] w.drew := by simp [Builtin.firstCells]
            obtain ⟨cap, w', r1, r2, r3, r4⟩ := run_append_grow (P := P) t u o.type e e2 inf ht hu hi none 0 0 ys.length ad2 cp2 #[] news2 vz w g2 hnews2 hold (by omega) (by omega) (by simpa using hb.2)
            simp only [Nat.zero_add] at r1 r2 r3 r4
            refine res_grew h hf htok hE r2 (sz := inf.size) (cap := cap) (es := ys) r3 ?_ r4 ?_ (run _ _ (by rw [hn, hzv]; exact r1)) (.inr ⟨ys.length, rfl, rfl, r3⟩)
            · simp only [Array.size_append, size_zeroCells', g5, hnsz2, Array.size_empty, Nat.zero_add, ← Nat.add_mul]
              congr 1; omega
            · have := CellsRep.append (c := #[]) (r := Builtin.zeroCells vz.cells (cap - ys.length)) (es := []) (sz := inf.size) (fun i q hq => by simp at hq) (by simp) hcr
              simpa using this
          · cases hr
      · rename_i tk m hyv
        obtain ⟨p, ad0, c0, hp, hv, ha, hc, h0⟩ := (hyv ▸ opd_rep h hy : Rep _ _ _ _ (.rf tk 0 m)).rf_inv
        obtain rfl := h0 rfl
        have had := ha (.inr rfl)
        simp only [Nat.zero_mul] at had
        subst had
        split at hr
        · rename_i zz es hes
          split at hr
          · rename_i hcd
            obtain ⟨hel, h63, hby, rfl⟩ := hcd
            obtain ⟨p', hp', hd0, hpz, hlen, hx⟩ := h.hs.dom _ _ hes
            rw [hp] at hp'; cases hp'
            dsimp only at hpz hlen hx
            obtain ⟨hxx, cur, el, hg, hcs, hcap⟩ := h.hs.blk _ _ hp
            have hE2 : tok ≠ tk := fun e => by rw [e, hp] at hf; cases hf
            split at hr
            · rename_i hemp
              cases hr
              have hy0 : ys = [] := by simpa using hemp
              subst hy0
              have hn0 : news = #[] := Array.eq_empty_of_size_eq_zero (by simpa using hnsz)
              have := run_append (P := P) t u o.type e e2 inf ht hu hi (some ⟨p.g, 0, none⟩) m p.cap 0 ad2 cp2 news w hnews (by omega)
              refine res_pure h (v := .slice (some ⟨p.g, 0, none⟩) m p.cap) (run _ _ ?_) (.rf tk 0 m _ _ p hp (fun _ => by simp) hc (fun _ => rfl))
              rw [hv, hzv]
              rw [List.length_nil, this]
              simp [hn0, storeCells]
            · rename_i hemp
              cases hr
              by_cases hroom : m + ys.length ≤ p.cap
              · -- in place
                have hra := run_append (P := P) t u o.type e e2 inf ht hu hi (some ⟨p.g, 0, none⟩) m p.cap ys.length ad2 cp2 news w hnews hroom
                have hbnd : m * inf.size + news.size ≤ cur.size := by
                  rw [hnsz, hcs, hpz, ← Nat.add_mul]; exact Nat.mul_le_mul_right _ hroom
                have hst := run_storeCells_cells (P := P) p.g (m * inf.size) news.toList 0 w
                  (fun j hj => by
                    have : m * inf.size + 0 + j < cur.size := by simp at hj; omega
                    simp [World.cell?, hg]; simpa using this)
                  (fun j hj => by simp [World.frozen?, hg]) (hone fun q hq => (hszc q hq).2)
                simp only [Nat.add_zero] at hst
                have hw := wrote_setCells news.toList (m * inf.size) w hg
                have hnew : CellsRep β (okB E.X β σ.H) w (splice cur (m * inf.size) news.toList) p.sz (es ++ ys) := by
                  rw [hpz]
                  intro i q hq
                  by_cases hil : i < es.length
                  · rw [List.getElem?_append_left hil] at hq
                    refine ⟨by rw [(hx i q hq).1, hpz], fun j r hj => ?_⟩
                    obtain ⟨v, hv', hrr⟩ := (hx i q hq).2 j r hj
                    have hjl : j < inf.size := by rw [← hpz, ← (hx i q hq).1]; exact (List.getElem?_eq_some_iff.1 hj).1
                    have hlt := row_lt hil hjl
                    refine ⟨v, ?_, hrr⟩
                    rw [splice_get, if_neg (by rw [← hel]; omega)]
                    rw [hpz] at hv'
                    simpa [World.cell?, hg] using hv'
                  · rw [List.getElem?_append_right (by omega)] at hq
                    obtain ⟨g7, g8⟩ := hnrep _ q hq
                    refine ⟨g7, fun j r hj => ?_⟩
                    obtain ⟨v, hv', hrr⟩ := g8 j r hj
                    have hlt : (i - es.length) * inf.size + j < news.size := (Array.getElem?_eq_some_iff.1 hv').1
                    have e4 : i * inf.size + j = m * inf.size + ((i - es.length) * inf.size + j) := by
                      rw [← Nat.add_assoc, ← Nat.add_mul]; congr 2; omega
                    refine ⟨v, ?_, hrr⟩
                    rw [e4, splice_get, if_pos (by simp; omega), Nat.add_sub_cancel_left]
                    simpa using hv'
                refine ⟨_, .slice (some ⟨p.g, 0, none⟩) (m + ys.length) p.cap, w.setCells p.g (m * inf.size) news.toList, β.hand tk tok p, run _ _ ?_, .inl rfl,
                  h.hs.handon hw hes hp hf htok (by rw [splice_size]; exact hcs) hpz (by simp; omega) hnew, hw.hand_stp hes hp hf, h.cx.handon hw hes hp hf hE, ?_, ?_⟩
                · rw [hv, hzv, hra]
                  simp only [Addr.add_lit, Nat.zero_add, hst, Result.andThen_ok]
                · exact .rf tok 0 (m + ys.length) _ _ p (hand_at hE2).1 (fun _ => by simp) hroom (fun _ => rfl)
                · intro k hk hb
                  rw [hand_ne hk (fun e => by rw [e, hp] at hb; cases hb)]; exact hb
              · -- a new block
                have hall2 : ∀ q ∈ es, q.cells.length = inf.size := by
                  intro q hq
                  obtain ⟨i, hi2, rfl⟩ := List.getElem_of_mem hq
                  rw [(hx i _ (List.getElem?_eq_getElem hi2)).1, hpz]
                have hel2 : elems σ.H (.rf tk 0 m) = some es := by
                  simp only [elems, hes]
                  rw [if_pos (by omega), List.drop_zero, List.take_of_length_le (by omega)]
                obtain ⟨ad3, cp3, old, hov, hold, hosz, horep, _⟩ := elems_run (P := P) hsd ((hyv ▸ opd_rep h hy : Rep _ _ _ _ (.rf tk 0 m)).stp (hd.stp β (okB E.X β σ.H))) hel2 hall2
                rw [hv, hel] at hov
                obtain ⟨rfl, rfl⟩ : ad3 = some ⟨p.g, 0, none⟩ ∧ cp3 = p.cap := by cases hov; exact ⟨rfl, rfl⟩
                rw [hv, hel] at hold
                obtain ⟨cap, w', r1, r2, r3, r4⟩ := run_append_grow (P := P) t u o.type e e2 inf ht hu hi (some ⟨p.g, 0, none⟩) m p.cap ys.length ad2 cp2 old news2 vz w g2 hnews2 hold hroom (by omega) (by simpa using hby)
                have hor : CellsRep β (okB E.X β σ.H) w old inf.size es := by
                  intro i q hq
                  refine ⟨(horep i q hq).1, fun j r hj => ?_⟩
                  obtain ⟨v, hv', hrr⟩ := (horep i q hq).2 j r hj
                  exact ⟨v, hv', hrr.stp (Same.stp (w := w.drew) (w' := w) ⟨rfl, rfl, rfl, rfl⟩ β _)⟩
                have hless : ∀ k b, (σ.H.off tk) k = some b → σ.H k = some b := by
                  intro k b hb
                  by_cases hk : k = tk
                  · subst hk; rw [Heap.off_self] at hb; cases hb
                  · rwa [Heap.off_ne _ hk] at hb
                have hL := h.less hless
                have hsome : ∀ k b, (σ.H.off tk) k = some b → (σ.H k).isSome = true := fun k b hb => by rw [hless k b hb]; rfl
                have hmono : CellsRep β (okB E.X β (σ.H.off tk)) w (old ++ news2 ++ Builtin.zeroCells vz.cells (cap - (m + ys.length))) inf.size (es ++ ys) := by
                  have := CellsRep.append (r := Builtin.zeroCells vz.cells (cap - (m + ys.length))) hor (by rw [hosz]) hcr
                  intro i q hq
                  refine ⟨(this i q hq).1, fun j r hj => ?_⟩
                  obtain ⟨v, hv', hrr⟩ := (this i q hq).2 j r hj
                  exact ⟨v, hv', hrr.stp (Stp.less hsome)⟩
                obtain ⟨nx, v, w2, β2, q1, q2, q3, q4, q5, q6, q7⟩ := res_grew hL hf htok hE r2 (sz := inf.size) (cap := cap) (es := es ++ ys) (by simp; omega)
                  (by simp only [Array.size_append, size_zeroCells', g5, hnsz2, hosz, ← Nat.add_mul]; congr 1; omega) r4 hmono (run _ _ (by rw [hv, hzv]; exact r1)) (.inr ⟨m + ys.length, rfl, rfl, r3⟩)
                exact ⟨nx, v, w2, β2, q1, q2, q3, ⟨q4.tok, fun t' p' hb hdd hok => q4.tag t' p' hb hdd (okB.less hsome hok), q4.size, fun g hgl hok => q4.okm g hgl (okB.less hsome hok), fun g o' hgl hok => q4.cell g o' hgl (okB.less hsome hok)⟩, q5, q6, q7⟩
          · cases hr
        · cases hr
      · cases hr
    · cases hr

end ops
end Go.Am
