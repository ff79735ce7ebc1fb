/-
  A part of the proof that the law FnExactSameAdjustments holds (abstract machine, walks, or the join). No conditions.
-/
import Derived.Test.YtdghdngpeidmnaaAmRow
/-! The arguments of a row, as the abstract machine sees them. -/
namespace Go.Am
set_option linter.unusedVariables false
set_option linter.unusedSimpArgs false

def aggT (P : Program) (t : TypeId) : Bool :=
  match P.underlying t with
  | some (.struct _) => true
  | some (.array _ _) => true
  | _ => false

/-- An element of its cells. -/
def mkE (P : Program) (t : TypeId) (zs : List AV) : AV := if aggT P t then .agg zs else zs.headD .top

/-- The cells of a value of this type. -/
def Tyc (P : Program) : Nat → TypeId → List AV → Prop
  | 0, _, _ => False
  | f + 1, t, ys =>
    match P.underlying t with
    | some .bool => ∃ b, ys = [.b b]
    | some (.int k) => ∃ n, ys = [.i k n] ∧ (Lit.int k n).wf = true
    | some .string => ∃ s, ys = [.s s] ∧ s.size ≤ maxLen
    | some (.slice e) => ∃ es : List (List AV), ys = [.sl none (es.map (mkE P e))] ∧ es.length ≤ maxLen ∧ ∀ z ∈ es, Tyc P f e z
    | some (.struct fs) => ys.length = P.cellsOf t ∧ ∀ g ∈ fs.toList, Tyc P f g.type ((ys.drop g.offset).take (P.cellsOf g.type))
    | _ => True

inductive LR (β : Bt) (ok : Nat → Prop) (w : World) : List Value → List AV → Prop
  | nil : LR β ok w [] []
  | cons {v : Value} {y : AV} {vs : List Value} {ys : List AV} (h : Rep β ok w v y) (hs : LR β ok w vs ys) : LR β ok w (v :: vs) (y :: ys)

section
variable {β : Bt} {ok : Nat → Prop} {w : World}

theorem LR.len {vs : List Value} {ys : List AV} (h : LR β ok w vs ys) : vs.length = ys.length := by
  induction h with
  | nil => rfl
  | cons _ _ ih => simp [ih]

theorem LR.append {vs vs' : List Value} {ys ys' : List AV} (h : LR β ok w vs ys) (h' : LR β ok w vs' ys') : LR β ok w (vs ++ vs') (ys ++ ys') := by
  induction h with
  | nil => exact h'
  | cons h _ ih => exact .cons h ih

theorem LR.at {vs : List Value} {ys : List AV} (h : LR β ok w vs ys) : ∀ {j : Nat} {v : Value} {y : AV}, vs[j]? = some v → ys[j]? = some y → Rep β ok w v y := by
  induction h with
  | nil => intro j v y hv; simp at hv
  | cons h _ ih =>
    intro j v y hv hy
    cases j with
    | zero => simp at hv hy; subst hv; subst hy; exact h
    | succ j => exact ih (by simpa using hv) (by simpa using hy)

theorem LR.tops : ∀ (vs : List Value), LR β ok w vs (List.replicate vs.length .top)
  | [] => .nil
  | v :: vs => .cons (.top v) (LR.tops vs)
end

/-- The fields of a struct lie one behind the other. -/
def contig (P : Program) : List Field → Nat → Option Nat
  | [], o => some o
  | g :: r, o => if g.offset = o then contig P r (o + P.cellsOf g.type) else none

/-- Every struct of the program is laid out so; every slice's elements have a cell. -/
def rowAt (P : Program) (t : TypeId) : Bool :=
  match P.underlying t with
  | some (.struct fs) => contig P fs.toList 0 == some (P.cellsOf t) && fs.toList.all fun g => decide (g.type < P.types.size)
  | some (.slice e) => decide (0 < P.cellsOf e) && (aggT P e || P.cellsOf e == 1) && decide (e < P.types.size)
  | _ => true

def rowsOk (P : Program) : Bool := (List.range P.types.size).all (rowAt P)

theorem rowsOk_at {P : Program} (h : rowsOk P = true) {t : TypeId} (hlt : t < P.types.size) : rowAt P t = true := List.all_eq_true.1 h t (List.mem_range.2 hlt)

theorem mapM_some {α γ : Type} {f : α → Option γ} : ∀ {l : List α} {r : List γ}, l.mapM f = some r → r.length = l.length ∧ ∀ a ∈ l, ∃ x, f a = some x
  | [], r, h => by simp at h; subst h; exact ⟨rfl, fun a ha => by cases ha⟩
  | a :: l, r, h => by
    simp only [List.mapM_cons, Option.bind_eq_bind, Option.bind_eq_some_iff, Option.pure_def, Option.some.injEq] at h
    obtain ⟨x, hx, r', hr, rfl⟩ := h
    obtain ⟨h1, h2⟩ := mapM_some hr
    refine ⟨by simp [h1], fun b hb => ?_⟩
    rcases List.mem_cons.1 hb with rfl | hb
    · exact ⟨x, hx⟩
    · exact h2 b hb

theorem choose_list {α : Type} {Q : Nat → α → Prop} : ∀ (n : Nat), (∀ i, i < n → ∃ z, Q i z) → ∃ l : List α, l.length = n ∧ ∀ i z, l[i]? = some z → Q i z
  | 0, _ => ⟨[], rfl, fun i z h => by simp at h⟩
  | n + 1, h => by
    obtain ⟨l, h1, h2⟩ := choose_list n (fun i hi => h i (by omega))
    obtain ⟨z, hz⟩ := h n (by omega)
    refine ⟨l ++ [z], by simp [h1], fun i y hy => ?_⟩
    by_cases hi : i < l.length
    · rw [List.getElem?_append_left hi] at hy; exact h2 i y hy
    · rw [List.getElem?_append_right (by omega)] at hy
      have e : i - l.length = 0 := by
        cases hk : i - l.length with
        | zero => rfl
        | succ k => rw [hk] at hy; simp at hy
      rw [e] at hy
      simp at hy
      subst hy
      have : i = n := by omega
      subst this
      exact hz

theorem cells?_at {w : World} {base : Nat} {a : Addr} : ∀ {n : Nat} {row : List Value}, w.cells? base a n = some row → row.length = n ∧ ∀ j, j < n → w.cell? (a.add j) = row[j]? := by
  intro n row h
  unfold World.cells? at h
  split at h
  · have aux : ∀ (l : List Nat) (r : List Value), l.mapM (fun (i : Nat) => w.cell? (a.add i)) = some r → r.length = l.length ∧ ∀ (j i : Nat), l[j]? = some i → w.cell? (a.add i) = r[j]? := by
      intro l
      induction l with
      | nil => intro r h; simp at h; subst h; exact ⟨rfl, fun j i hj => by simp at hj⟩
      | cons b l ih =>
        intro r h
        simp only [List.mapM_cons, Option.bind_eq_bind, Option.bind_eq_some_iff, Option.pure_def, Option.some.injEq] at h
        obtain ⟨x, hx, r', hr, rfl⟩ := h
        obtain ⟨h1, h2⟩ := ih r' hr
        refine ⟨by simp [h1], fun j i hj => ?_⟩
        cases j with
        | zero => simp at hj; subst hj; simpa using hx
        | succ j => simpa using h2 j i (by simpa using hj)
    obtain ⟨h1, h2⟩ := aux _ _ h
    refine ⟨by simpa using h1, fun j hj => h2 j j (by simp [hj])⟩
  · cases h

section
variable {H : Type} {enc : TypeId × Value → H} {P : Program} {β : Bt} {ok : Nat → Prop} {w : World}

theorem fields_rep {fuel base : Nat} {sp : Nat → Bool} {held : Bool} (ih : ∀ (t : TypeId) (cs : List Value) (d : DataW H) (ps : List MemPlace), t < P.types.size → DataW.trod enc P w base sp held fuel t cs = some (d, ps) →
      ∃ ys, LR β ok w cs ys ∧ Tyc P fuel t ys ∧ ∀ y ∈ ys, y.cells = [y]) (cs : List Value) : ∀ (fs : List Field) (o tot : Nat), contig P fs o = some tot → tot = cs.length → o ≤ tot →
      (∀ g ∈ fs, g.type < P.types.size) → (∀ g ∈ fs, ∃ x, DataW.trod enc P w base sp held fuel g.type ((cs.drop g.offset).take (P.cellsOf g.type)) = some x) →
      ∃ ys, LR β ok w (cs.drop o) ys ∧ (∀ g ∈ fs, o ≤ g.offset ∧ Tyc P fuel g.type ((ys.drop (g.offset - o)).take (P.cellsOf g.type))) ∧ ∀ y ∈ ys, y.cells = [y]
  | [], o, tot, hc, ht, ho, _, _ => by
    simp only [contig, Option.some.injEq] at hc
    refine ⟨[], ?_, (fun g hg => by cases hg), (fun y hy => by cases hy)⟩
    rw [List.drop_eq_nil_of_le (by omega)]
    exact .nil
  | g :: r, o, tot, hc, ht, ho, hty, hx => by
    simp only [contig] at hc
    split at hc
    · rename_i he
      obtain ⟨⟨d, ps⟩, hd⟩ := hx g (by simp)
      obtain ⟨ys1, l1, t1, c1⟩ := ih _ _ _ _ (hty g (by simp)) hd
      have hle : o + P.cellsOf g.type ≤ tot := by
        have aux : ∀ (l : List Field) (a b : Nat), contig P l a = some b → a ≤ b := by
          intro l
          induction l with
          | nil => intro a b h; simp only [contig, Option.some.injEq] at h; omega
          | cons q l ih' =>
            intro a b h
            simp only [contig] at h
            split at h
            · have := ih' _ _ h; omega
            · cases h
        exact aux _ _ _ hc
      obtain ⟨ys2, l2, t2, c2⟩ := fields_rep ih cs r _ tot hc ht hle (fun q hq => hty q (by simp [hq])) (fun q hq => hx q (by simp [hq]))
      have hlen : ys1.length = P.cellsOf g.type := by
        rw [← l1.len, List.length_take, List.length_drop, he]; omega
      refine ⟨ys1 ++ ys2, ?_, ?_, ?_⟩
      · have e : cs.drop o = (cs.drop g.offset).take (P.cellsOf g.type) ++ cs.drop (o + P.cellsOf g.type) := by
          rw [he]
          conv => lhs; rw [← List.take_append_drop (P.cellsOf g.type) (cs.drop o)]
          rw [List.drop_drop]
        rw [e]
        exact l1.append l2
      · intro q hq
        rcases List.mem_cons.1 hq with rfl | hq
        · refine ⟨by omega, ?_⟩
          rw [he, Nat.sub_self, List.drop_zero, ← hlen, List.take_left']
          · exact t1
          · rfl
        · obtain ⟨a1, a2⟩ := t2 q hq
          refine ⟨by omega, ?_⟩
          rw [show q.offset - o = ys1.length + (q.offset - (o + P.cellsOf g.type)) by omega, ← List.drop_drop, List.drop_left']
          · exact a2
          · rfl
      · intro y hy
        rcases List.mem_append.1 hy with h | h
        · exact c1 y h
        · exact c2 y h
    · cases hc

theorem trod_rep (hR : rowsOk P = true) (hok : ∀ g, g < w.heap.size → ok g) {base : Nat} {sp : Nat → Bool} {held : Bool} : ∀ (fuel : Nat) (t : TypeId) (cs : List Value) (d : DataW H) (ps : List MemPlace), t < P.types.size → DataW.trod enc P w base sp held fuel t cs = some (d, ps) →
    ∃ ys, LR β ok w cs ys ∧ Tyc P fuel t ys ∧ ∀ y ∈ ys, y.cells = [y] := by
  intro fuel
  induction fuel with
  | zero => intro t cs d ps _ h; simp [DataW.trod] at h
  | succ fuel ih =>
    intro t cs d ps hlt h
    have other : (∀ ys, Tyc P (fuel + 1) t ys) → ∃ ys, LR β ok w cs ys ∧ Tyc P (fuel + 1) t ys ∧ ∀ y ∈ ys, y.cells = [y] := by
      intro ht
      refine ⟨_, LR.tops cs, ht _, fun y hy => ?_⟩
      rw [List.eq_of_mem_replicate hy]; rfl
    cases hu : P.underlying t with
    | none => exact other fun ys => by simp only [Tyc, hu]
    | some desc =>
      simp only [DataW.trod, hu] at h
      cases desc <;> try (refine other fun ys => ?_; simp only [Tyc, hu]; done)
      case bool =>
        cases cs with
        | nil => simp at h
        | cons v r =>
          cases r with
          | cons _ _ => cases v <;> simp at h
          | nil =>
            cases v with
            | bool b => exact ⟨[.b b], .cons (.b b) .nil, by simp only [Tyc, hu]; exact ⟨b, rfl⟩, fun y hy => by simp at hy; subst hy; rfl⟩
            | _ => simp at h
      case int k =>
        cases cs with
        | nil => simp at h
        | cons v r =>
          cases r with
          | cons _ _ => cases v <;> simp at h
          | nil =>
            cases v with
            | int k' n =>
              simp only at h
              split at h
              · rename_i hh
                obtain ⟨rfl, hwf⟩ := hh
                exact ⟨[.i k' n], .cons (.i k' n) .nil, by simp only [Tyc, hu]; exact ⟨n, rfl, hwf⟩, fun y hy => by simp at hy; subst hy; rfl⟩
              · cases h
            | _ => simp at h
      case string =>
        cases cs with
        | nil => simp at h
        | cons v r =>
          cases r with
          | cons _ _ => cases v <;> simp at h
          | nil =>
            cases v with
            | string s =>
              simp only at h
              split at h
              · rename_i hh
                exact ⟨[.s s], .cons (.s s) .nil, by simp only [Tyc, hu]; exact ⟨s, rfl, hh⟩, fun y hy => by simp at hy; subst hy; rfl⟩
              · cases h
            | _ => simp at h
      case slice e =>
        have hc := rowsOk_at hR hlt
        simp only [rowAt, hu, Bool.and_eq_true, Bool.or_eq_true, beq_iff_eq, decide_eq_true_eq] at hc
        obtain ⟨⟨hpos, hagg⟩, hety⟩ := hc
        cases cs with
        | nil => simp at h
        | cons v r =>
          cases r with
          | cons _ _ => cases v <;> simp at h
          | nil =>
            have nilcase : ∀ (a : Option Addr) (c : Nat), ∃ ys, LR β ok w [.slice a 0 c] ys ∧ Tyc P (fuel + 1) t ys ∧ ∀ y ∈ ys, y.cells = [y] := by
              intro a c
              refine ⟨[.sl none []], .cons (.sl0 none a c) .nil, ?_, fun y hy => by simp at hy; subst hy; rfl⟩
              simp only [Tyc, hu]
              exact ⟨[], rfl, by simp, fun z hz => by cases hz⟩
            cases v with
            | slice a len cap =>
              cases a with
              | none =>
                cases len with
                | zero => exact nilcase none cap
                | succ n => simp at h
              | some a =>
                simp only at h
                split at h
                · rename_i hh
                  obtain ⟨hb, hlc, hcm⟩ := hh
                  simp only [Option.bind_eq_some_iff] at h
                  obtain ⟨elems, hel, _⟩ := h
                  obtain ⟨he1, he2⟩ := mapM_some hel
                  by_cases hl0 : len = 0
                  · subst hl0; exact nilcase (some a) cap
                  have hrow : ∀ i, i < len → ∃ z : List AV, ∃ row, w.cells? base (a.add (i * P.cellsOf e)) (P.cellsOf e) = some row ∧ LR β ok w row z ∧ Tyc P fuel e z ∧ ∀ y ∈ z, y.cells = [y] := by
                    intro i hi
                    obtain ⟨x, hx⟩ := he2 i (List.mem_range.2 hi)
                    obtain ⟨row, h1, h2⟩ := Option.bind_eq_some_iff.1 hx
                    obtain ⟨z, z1, z2, z3⟩ := ih e row x.1 x.2 hety h2
                    exact ⟨z, row, h1, z1, z2, z3⟩
                  obtain ⟨es, hes, hesr⟩ := choose_list len hrow
                  have hspot : a = ⟨a.block, a.off, none⟩ := by
                    obtain ⟨z, row, h1, _⟩ := hrow 0 (by omega)
                    obtain ⟨g1, g2⟩ := cells?_at h1
                    have := g2 0 hpos
                    rw [List.getElem?_eq_getElem (by omega)] at this
                    simp only [Nat.zero_mul, Addr.add, if_pos] at this
                    unfold World.cell? at this
                    split at this
                    · split at this
                      · cases this
                      · rename_i hn
                        cases a with
                        | mk b o sp => cases sp <;> simp_all
                    · cases this
                  have hcell : ∀ i j, i < len → j < P.cellsOf e → ∀ row, w.cells? base (a.add (i * P.cellsOf e)) (P.cellsOf e) = some row → w.cell? ⟨a.block, a.off + i * P.cellsOf e + j, none⟩ = row[j]? := by
                    intro i j hi hj row hr
                    obtain ⟨g1, g2⟩ := cells?_at hr
                    rw [← g2 j hj]
                    congr 1
                    rw [hspot]
                    simp only [Addr.add]
                    by_cases h1 : i * P.cellsOf e = 0 <;> by_cases h2 : j = 0 <;> simp [h1, h2]
                  have hblk : a.block < w.heap.size := by
                    obtain ⟨z, row, h1, _⟩ := hrow 0 (by omega)
                    obtain ⟨g1, _⟩ := cells?_at h1
                    have := hcell 0 0 (by omega) hpos row h1
                    rw [List.getElem?_eq_getElem (by omega)] at this
                    unfold World.cell? at this
                    simp only at this
                    split at this
                    · rename_i hh
                      exact (Array.getElem?_eq_some_iff.1 hh).1
                    · cases this
                  have hcellsE : ∀ z ∈ es, (mkE P e z).cells = z ∧ z.length = P.cellsOf e := by
                    intro z hz
                    obtain ⟨i, hi⟩ := List.mem_iff_getElem?.1 hz
                    obtain ⟨row, h1, z1, z2, z3⟩ := hesr i z hi
                    have hlen : z.length = P.cellsOf e := by rw [← z1.len, (cells?_at h1).1]
                    refine ⟨?_, hlen⟩
                    unfold mkE
                    by_cases ha : aggT P e = true
                    · rw [if_pos ha]; rfl
                    · rw [if_neg ha]
                      have h1' : P.cellsOf e = 1 := by rcases hagg with h | h; exact absurd h ha; exact h
                      obtain ⟨y, rfl⟩ := List.length_eq_one_iff.1 (hlen.trans h1')
                      exact z3 y (by simp)
                  have hval : Value.slice (some a) len cap = .slice (some ⟨a.block, a.off, none⟩) (es.map (mkE P e)).length cap := by
                    rw [← hspot]; simp [hes]
                  refine ⟨[.sl none (es.map (mkE P e))], .cons ?_ .nil, ?_, fun y hy => by simp at hy; subst hy; rfl⟩
                  · rw [hval]
                    refine .sl a.block a.off cap (P.cellsOf e) none (es.map (mkE P e)) (fun i j => (w.cell? ⟨a.block, a.off + i * P.cellsOf e + j, none⟩).getD undef) (by simp [hes]; exact hlc) (hok _ hblk) hblk (fun k hk => by cases hk) ?_ ?_ ?_
                    · intro i x hx
                      simp only [List.getElem?_map, Option.map_eq_some_iff] at hx
                      obtain ⟨z, hz, rfl⟩ := hx
                      obtain ⟨c1, c2⟩ := hcellsE z (List.mem_of_getElem? hz)
                      rw [c1, c2]
                    · intro i x j hx hj
                      simp only [List.getElem?_map, Option.map_eq_some_iff] at hx
                      obtain ⟨z, hz, rfl⟩ := hx
                      obtain ⟨row, h1, z1, _⟩ := hesr i z hz
                      have hi : i < len := by rw [← hes]; exact (List.getElem?_eq_some_iff.1 hz).1
                      rw [hcell i j hi hj row h1, List.getElem?_eq_getElem (by rw [(cells?_at h1).1]; exact hj)]
                      rfl
                    · intro i x j y hx hy
                      simp only [List.getElem?_map, Option.map_eq_some_iff] at hx
                      obtain ⟨z, hz, rfl⟩ := hx
                      obtain ⟨row, h1, z1, _⟩ := hesr i z hz
                      have hi : i < len := by rw [← hes]; exact (List.getElem?_eq_some_iff.1 hz).1
                      obtain ⟨c1, c2⟩ := hcellsE z (List.mem_of_getElem? hz)
                      rw [c1] at hy
                      have hj : j < P.cellsOf e := by rw [← c2]; exact (List.getElem?_eq_some_iff.1 hy).1
                      rw [hcell i j hi hj row h1, List.getElem?_eq_getElem (by rw [(cells?_at h1).1]; exact hj)]
                      exact z1.at (List.getElem?_eq_getElem _) hy
                  · simp only [Tyc, hu]
                    refine ⟨es, rfl, by omega, fun z hz => ?_⟩
                    obtain ⟨i, hi⟩ := List.mem_iff_getElem?.1 hz
                    obtain ⟨_, _, _, h3, _⟩ := hesr i z hi
                    exact h3
                · cases h
            | _ => simp at h
      case struct fs =>
        have hc := rowsOk_at hR hlt
        simp only [rowAt, hu, Bool.and_eq_true, beq_iff_eq, List.all_eq_true, decide_eq_true_eq] at hc
        obtain ⟨hc, hty⟩ := hc
        simp only at h
        split at h
        · rename_i hl
          obtain ⟨xs, hx, _⟩ := Option.map_eq_some_iff.1 h
          obtain ⟨_, hx2⟩ := mapM_some hx
          obtain ⟨ys, l1, l2, l3⟩ := fields_rep (β := β) (ok := ok) ih cs fs.toList 0 _ hc hl.symm (by omega) hty hx2
          refine ⟨ys, by simpa using l1, ?_, l3⟩
          simp only [Tyc, hu]
          refine ⟨?_, fun g hg => ?_⟩
          · have := l1.len; simp at this; omega
          · have := (l2 g hg).2; simpa using this
        · cases h
end

end Go.Am
