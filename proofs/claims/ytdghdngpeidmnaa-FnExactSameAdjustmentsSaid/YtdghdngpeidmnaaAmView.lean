/-
  A part of the proof that the law FnExactSameAdjustments holds (abstract machine, walks, or the join). No conditions.
-/
import Derived.Test.YtdghdngpeidmnaaAmMC
/-! A value seen as data: what own blocks hold becomes part of it. And calls that get data and give data. -/
namespace Go.Am
set_option linter.unusedVariables false

/-- `Vw H S T U v x`: seen over the heap H, the value v is x. S: the tokens that may be looked into; T k t: the tag k is given to token t; U: may a slice go untagged? -/
inductive Vw (H : Heap) (S : Nat → Prop) (T : Nat → Nat → Prop) (U : Prop) : AV → AV → Prop
  | top (v : AV) : Vw H S T U v .top
  | b (x : Bool) : Vw H S T U (.b x) (.b x)
  | i (k : IntKind) (m : Int) : Vw H S T U (.i k m) (.i k m)
  | s (x : ByteArray) : Vw H S T U (.s x) (.s x)
  | agg (cs ds : List AV) (hl : cs.length = ds.length) (h : ∀ (j : Nat) (x y : AV), cs[j]? = some x → ds[j]? = some y → Vw H S T U x y) : Vw H S T U (.agg cs) (.agg ds)
  | tup (cs ds : List AV) (hl : cs.length = ds.length) (h : ∀ (j : Nat) (x y : AV), cs[j]? = some x → ds[j]? = some y → Vw H S T U x y) : Vw H S T U (.tup cs) (.tup ds)
  | fn (f : Nat) (cs ds : List AV) (hl : cs.length = ds.length) (h : ∀ (j : Nat) (x y : AV), cs[j]? = some x → ds[j]? = some y → Vw H S T U x y) : Vw H S T U (.fn f cs) (.fn f ds)
  | nl : Vw H S T U .nl .nl
  | nlsl (t : Option Nat) : Vw H S T U .nl (.sl t [])
  | sl0 (t u : Option Nat) : Vw H S T U (.sl t []) (.sl u [])
  | rf0 (t s : Nat) (u : Option Nat) : Vw H S T U (.rf t s 0) (.sl u [])
  | sl (t u : Option Nat) (xs ys : List AV) (hu : u = none → U) (ht : ∀ k, u = some k → ∃ j, t = some j ∧ T k j) (hl : xs.length = ys.length)
      (hz : ∀ (j : Nat) (x y : AV), xs[j]? = some x → ys[j]? = some y → x.cells.length = y.cells.length)
      (h : ∀ (j : Nat) (x y : AV) (k : Nat) (p q : AV), xs[j]? = some x → ys[j]? = some y → x.cells[k]? = some p → y.cells[k]? = some q → Vw H S T U p q) : Vw H S T U (.sl t xs) (.sl u ys)
  | rf (t s n z : Nat) (es : List AV) (u : Option Nat) (ys : List AV) (hS : S t) (hH : H t = some (z, es)) (hn : s + n ≤ es.length) (hu : u = none → U) (ht : ∀ k, u = some k → T k t) (hl : ys.length = n)
      (hz : ∀ (j : Nat) (x y : AV), ((es.drop s).take n)[j]? = some x → ys[j]? = some y → x.cells.length = y.cells.length)
      (h : ∀ (j : Nat) (x y : AV) (k : Nat) (p q : AV), ((es.drop s).take n)[j]? = some x → ys[j]? = some y → x.cells[k]? = some p → y.cells[k]? = some q → Vw H S T U p q) : Vw H S T U (.rf t s n) (.sl u ys)
  | ad (t i o z : Nat) (es : List AV) (e e' : AV) (hS : S t) (hH : H t = some (z, es)) (he : es[i]? = some e) (hU : U) (hz : e.cells.length = e'.cells.length)
      (h : ∀ (k : Nat) (p q : AV), e.cells[k]? = some p → e'.cells[k]? = some q → Vw H S T U p q) : Vw H S T U (.ad t i o) (.pr e' o)
  | pr (e e' : AV) (o : Nat) (hU : U) (hz : e.cells.length = e'.cells.length) (h : ∀ (k : Nat) (p q : AV), e.cells[k]? = some p → e'.cells[k]? = some q → Vw H S T U p q) : Vw H S T U (.pr e o) (.pr e' o)

/-- What is seen so is what the machine holds. -/
theorem Vw.rep {X : Nat → Prop} {β β' : Bt} {H : Heap} {n : Nat} {w : World} {S : Nat → Prop} {T : Nat → Nat → Prop} {U : Prop} {ok' : Nat → Prop} {x y : AV} (h : Vw H S T U x y) (hs : HSim X β w H n)
    (hok : U → ∀ g, okB X β H g → ok' g) (hS : ∀ t b p, S t → H t = some b → β t = some p → ok' p.g)
    (hT : ∀ k t p, T k t → β t = some p → p.dead = false → ok' p.g ∧ ∃ p', β' k = some p' ∧ p'.g = p.g ∧ p'.dead = false) :
    ∀ {v : Value}, Rep β (okB X β H) w v x → Rep β' ok' w v y := by
  induction h with
  | top v => intro v _; exact .top _
  | b x => intro v hr; rw [hr.b_inv]; exact .b x
  | i k m => intro v hr; rw [hr.i_inv]; exact .i k m
  | s x => intro v hr; rw [hr.s_inv]; exact .s x
  | agg cs ds hl h ih =>
    intro v hr
    obtain ⟨vs, rfl, h1, h2⟩ := hr.agg_inv
    refine .agg vs ds (by omega) fun j y hy => ?_
    have hj : j < cs.length := by rw [hl]; exact (List.getElem?_eq_some_iff.1 hy).1
    exact ih j _ y (List.getElem?_eq_getElem hj) hy (h2 j _ (List.getElem?_eq_getElem hj))
  | tup cs ds hl h ih =>
    intro v hr
    obtain ⟨vs, rfl, h1, h2⟩ := hr.tup_inv
    refine .tup vs ds (by omega) fun j y hy => ?_
    have hj : j < cs.length := by rw [hl]; exact (List.getElem?_eq_some_iff.1 hy).1
    exact ih j _ y (List.getElem?_eq_getElem hj) hy (h2 j _ (List.getElem?_eq_getElem hj))
  | fn f cs ds hl h ih =>
    intro v hr
    obtain ⟨vs, rfl, h1, h2⟩ := hr.fn_inv
    refine .fn f ds vs (by omega) fun j y hy => ?_
    have hj : j < cs.length := by rw [hl]; exact (List.getElem?_eq_some_iff.1 hy).1
    exact ih j _ y (List.getElem?_eq_getElem hj) hy (h2 j _ (List.getElem?_eq_getElem hj))
  | nl => intro v hr; rw [hr.nl_inv]; exact .nl
  | nlsl t => intro v hr; rw [hr.nl_inv]; exact .sl0 _ _ _
  | sl0 t u =>
    intro v hr
    obtain ⟨a, c, rfl, _⟩ := hr.sl_inv
    exact .sl0 _ _ _
  | rf0 t s u =>
    intro v hr
    obtain ⟨p, a, c, _, rfl, _⟩ := hr.rf_inv
    exact .sl0 _ _ _
  | sl t u xs ys hu ht hl hz h ih =>
    intro v hr
    obtain ⟨a, c, rfl, hc, hx⟩ := hr.sl_inv
    by_cases h0 : xs = []
    · subst h0
      have : ys = [] := List.length_eq_zero_iff.1 (by simpa using hl.symm)
      subst this
      exact .sl0 _ _ _
    · obtain ⟨g, o, sz, cv, rfl, hg, hgl, htag, hss, hm, hrr⟩ := hx h0
      have hgk : ok' g ∧ ∀ k, u = some k → ∃ p, β' k = some p ∧ p.g = g ∧ p.dead = false := by
        cases u with
        | none => exact ⟨hok (hu rfl) g hg, fun k hk => by cases hk⟩
        | some k =>
          obtain ⟨j, rfl, hTk⟩ := ht k rfl
          obtain ⟨p, hp, hpg, hpd⟩ := htag j rfl
          obtain ⟨q1, p', q2, q3, q4⟩ := hT k j p hTk hp hpd
          refine ⟨hpg ▸ q1, fun k' hk => ?_⟩
          cases hk
          exact ⟨p', q2, by rw [q3, hpg], q4⟩
      rw [hl]
      have hget : ∀ {i : Nat} {y : AV}, ys[i]? = some y → ∃ x, xs[i]? = some x := by
        intro i y hy
        have hi : i < xs.length := by rw [hl]; exact (List.getElem?_eq_some_iff.1 hy).1
        exact ⟨_, List.getElem?_eq_getElem hi⟩
      refine .sl g o c sz u ys cv (by omega) hgk.1 hgl hgk.2 ?_ ?_ ?_
      · intro i y hy
        obtain ⟨x, hx⟩ := hget hy
        rw [← hz i x y hx hy]; exact hss i x hx
      · intro i y j hy hj
        obtain ⟨x, hx⟩ := hget hy
        exact hm i x j hx hj
      · intro i y j q hy hq
        obtain ⟨x, hx⟩ := hget hy
        have hj : j < x.cells.length := by rw [hz i x y hx hy]; exact (List.getElem?_eq_some_iff.1 hq).1
        exact ih i x y j _ q hx hy (List.getElem?_eq_getElem hj) hq (hrr i x j _ hx (List.getElem?_eq_getElem hj))
  | rf t s m z es u ys hSt hH hn hu ht hl hz h ih =>
    intro v hr
    obtain ⟨p, a, c, hp, rfl, ha, hc, _⟩ := hr.rf_inv
    obtain ⟨p', hp', hd, hpz, hlen, hx⟩ := hs.dom _ _ hH
    rw [hp] at hp'; cases hp'
    dsimp only at hpz hlen hx
    by_cases h0 : m = 0
    · subst h0
      have : ys = [] := List.length_eq_zero_iff.1 hl
      subst this
      exact .sl0 _ _ _
    · have had := ha (.inl h0)
      subst had
      have hgp : p.g < w.heap.size := hs.plt hp
      have hgk : ok' p.g ∧ ∀ k, u = some k → ∃ q, β' k = some q ∧ q.g = p.g ∧ q.dead = false := by
        refine ⟨hS t _ p hSt hH hp, fun k hk => ?_⟩
        exact (hT k t p (ht k hk) hp hd).2
      have hget : ∀ {i : Nat} {y : AV}, ys[i]? = some y → ∃ x, ((es.drop s).take m)[i]? = some x ∧ es[s + i]? = some x := by
        intro i y hy
        have hi : i < m := by rw [← hl]; exact (List.getElem?_eq_some_iff.1 hy).1
        have hi2 : s + i < es.length := by omega
        refine ⟨es[s + i], ?_, List.getElem?_eq_getElem hi2⟩
        rw [List.getElem?_take, if_pos hi, List.getElem?_drop, List.getElem?_eq_getElem hi2]
      subst hl
      refine .sl p.g (s * p.sz) c p.sz u ys (fun i j => (w.cell? ⟨p.g, s * p.sz + i * p.sz + j, none⟩).getD undef) hc hgk.1 hgp hgk.2 ?_ ?_ ?_
      · intro i y hy
        obtain ⟨x, hx1, hx2⟩ := hget hy
        rw [← hz i x y hx1 hy]; exact (hx _ x hx2).1
      · intro i y j hy hj
        obtain ⟨x, hx1, hx2⟩ := hget hy
        have hjl : j < x.cells.length := by rw [(hx _ x hx2).1]; exact hj
        obtain ⟨u', hu', _⟩ := (hx _ x hx2).2 j _ (List.getElem?_eq_getElem hjl)
        have e : s * p.sz + i * p.sz + j = (s + i) * p.sz + j := by rw [Nat.add_mul]
        rw [e, hu']; rfl
      · intro i y j q hy hq
        obtain ⟨x, hx1, hx2⟩ := hget hy
        have hjl : j < x.cells.length := by rw [hz i x y hx1 hy]; exact (List.getElem?_eq_some_iff.1 hq).1
        obtain ⟨u', hu', hru⟩ := (hx _ x hx2).2 j _ (List.getElem?_eq_getElem hjl)
        have e : s * p.sz + i * p.sz + j = (s + i) * p.sz + j := by rw [Nat.add_mul]
        rw [e, hu']
        exact ih i x y j _ q hx1 hy (List.getElem?_eq_getElem hjl) hq hru
  | ad t i o z es e e' hSt hH he hU hz h ih =>
    intro v hr
    obtain ⟨p, hp, rfl⟩ := hr.ad_inv
    obtain ⟨p', hp', hd, hpz, hlen, hx⟩ := hs.dom _ _ hH
    rw [hp] at hp'; cases hp'
    dsimp only at hpz hlen hx
    refine .pr e' o p.g (i * p.sz) (fun j => (w.cell? ⟨p.g, i * p.sz + j, none⟩).getD undef) (hS t _ p hSt hH hp) (hs.plt hp) ?_ ?_
    · intro j hj
      have hjl : j < e.cells.length := by omega
      obtain ⟨u', hu', _⟩ := (hx _ e he).2 j _ (List.getElem?_eq_getElem hjl)
      rw [hu']; rfl
    · intro j q hq
      have hjl : j < e.cells.length := by rw [hz]; exact (List.getElem?_eq_some_iff.1 hq).1
      obtain ⟨u', hu', hru⟩ := (hx _ e he).2 j _ (List.getElem?_eq_getElem hjl)
      rw [hu']
      exact ih j _ q (List.getElem?_eq_getElem hjl) hq hru
  | pr e e' o hU hz h ih =>
    intro v hr
    obtain ⟨g, b, cv, rfl, hg, hgl, hm, hrr⟩ := hr.pr_inv
    refine .pr e' o g b cv (hok hU g hg) hgl (fun j hj => hm j (by omega)) fun j q hq => ?_
    have hjl : j < e.cells.length := by rw [hz]; exact (List.getElem?_eq_some_iff.1 hq).1
    exact ih j _ q (List.getElem?_eq_getElem hjl) hq (hrr j _ (List.getElem?_eq_getElem hjl))

end Go.Am
