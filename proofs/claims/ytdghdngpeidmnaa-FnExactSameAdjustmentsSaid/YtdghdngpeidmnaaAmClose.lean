/-
  A part of the proof that the law FnExactSameAdjustments holds (abstract machine, walks, or the join). No conditions.
-/
import Derived.Test.YtdghdngpeidmnaaAmArg
/-! The law's call in the world of a row; the types of the data. -/
namespace Go.Am
open Go.ChangeShapes Go.WideShapes Go.ChangeAt Go.RowKit
set_option linter.unusedVariables false

abbrev β0 : Bt := fun _ => none
abbrev ok0 : Nat → Prop := okB (fun _ => False) β0 noHeap

theorem ok0_all (w : World) : ∀ g, g < w.heap.size → ok0 g := fun g _ => ⟨fun h => h, fun t es p h => by cases h⟩

theorem vw_b {H : Heap} {S : Nat → Prop} {T : Nat → Nat → Prop} {U : Prop} {x : AV} {b : Bool} (h : Vw H S T U x (.b b)) : x = .b b := by cases h; rfl

theorem law_calls {P : Program} {f : Nat} {args : List AV} (h : SC P f args (.b true)) {W : World} {cargs : Array Value} (hr : LRep β0 ok0 W cargs args) :
    Calls P f cargs W fun e W' => e = .returned (.bool true) ∧ Below W.heap.size W W' := by
  have hs : HSim (fun _ => False) β0 W noHeap 0 := ⟨(fun t p h => by cases h), (fun t t' p p' h => by cases h), (fun t p h => by cases h), (fun t es h => by cases h), (fun g h => h.elim)⟩
  refine Calls.mono (h.2 _ _ W cargs hs hr) ?_
  rintro e W' ⟨cv, v, β', H', n', rfl, ⟨ρ, _, hv⟩, hs', hrep, hcx⟩
  have hb := vw_b (hv 0)
  subst hb
  refine ⟨by rw [hrep.b_inv], hcx.os, hcx.tape, hcx.output, hcx.size, fun k hk => hcx.old k hk ?_⟩
  rintro ⟨t, es, p, h, _⟩
  cases h

section
variable {P : Program}

theorem tyc_bool {f : Nat} {t : TypeId} {ys : List AV} (hu : P.underlying t = some .bool) (h : Tyc P f t ys) : ∃ b, ys = [.b b] := by
  cases f with
  | zero => exact h.elim
  | succ f => simp only [Tyc, hu] at h; exact h

theorem tyc_int {f : Nat} {t : TypeId} {ys : List AV} {k : IntKind} (hu : P.underlying t = some (.int k)) (h : Tyc P f t ys) : ∃ n, ys = [.i k n] ∧ (Lit.int k n).wf = true := by
  cases f with
  | zero => exact h.elim
  | succ f => simp only [Tyc, hu] at h; exact h

theorem tyc_slice {f : Nat} {t e : TypeId} {ys : List AV} (hu : P.underlying t = some (.slice e)) (h : Tyc P f t ys) : ∃ (f' : Nat) (es : List (List AV)), ys = [.sl none (es.map (mkE P e))] ∧ es.length ≤ maxLen ∧ ∀ z ∈ es, Tyc P f' e z := by
  cases f with
  | zero => exact h.elim
  | succ f => simp only [Tyc, hu] at h; exact ⟨f, h⟩

theorem tyc_struct {f : Nat} {t : TypeId} {fs : Array Field} {ys : List AV} (hu : P.underlying t = some (.struct fs)) (h : Tyc P f t ys) : ys.length = P.cellsOf t ∧ ∃ f', ∀ g ∈ fs.toList, Tyc P f' g.type ((ys.drop g.offset).take (P.cellsOf g.type)) := by
  cases f with
  | zero => exact h.elim
  | succ f => simp only [Tyc, hu] at h; exact ⟨h.1, f, h.2⟩

/-- A list of values of one type, each of which stands for something. -/
theorem list_of {α : Type} {Q : α → Prop} {mk : α → AV} {P : Program} {e : TypeId} : ∀ (es : List (List AV)), (∀ z ∈ es, ∃ a, mkE P e z = mk a ∧ Q a) → ∃ l : List α, es.map (mkE P e) = l.map mk ∧ l.length = es.length ∧ ∀ a ∈ l, Q a
  | [], _ => ⟨[], rfl, rfl, fun a h => by cases h⟩
  | z :: r, h => by
    obtain ⟨a, h1, h2⟩ := h z (by simp)
    obtain ⟨l, g1, g2, g3⟩ := list_of r (fun y hy => h y (by simp [hy]))
    refine ⟨a :: l, by simp [h1, g1], by simp [g2], fun b hb => ?_⟩
    rcases List.mem_cons.1 hb with rfl | hb
    · exact h2
    · exact g3 b hb

theorem tyc_ints {f : Nat} {t e : TypeId} {ys : List AV} (hu : P.underlying t = some (.slice e)) (he : P.underlying e = some (.int .i64)) (h : Tyc P f t ys) : ∃ xs, ys = [ints xs] ∧ xs.length < 9223372036854775808 := by
  obtain ⟨f', es, rfl, hl, hz⟩ := tyc_slice hu h
  obtain ⟨l, h1, h2, _⟩ := list_of (P := P) (e := e) (mk := AV.i .i64) (Q := fun _ => True) es (fun z hz' => by
    obtain ⟨n, rfl, _⟩ := tyc_int he (hz z hz')
    exact ⟨n, by simp [mkE, aggT, he], trivial⟩)
  refine ⟨l, by rw [h1]; rfl, ?_⟩
  simp only [maxLen] at hl
  omega

/-- The types of the program's data. -/
structure Types (P : Program) (tB tI tIs tBig tR : TypeId) : Prop where
  b : P.underlying tB = some .bool
  i : P.underlying tI = some (.int .i64)
  is : P.underlying tIs = some (.slice tI)
  big : ∃ fs, P.underlying tBig = some (.struct fs) ∧ ∃ g1 g2, fs.toList = [g1, g2] ∧ g1.type = tB ∧ g1.offset = 0 ∧ g2.type = tIs ∧ g2.offset = 1
  r : ∃ fs, P.underlying tR = some (.struct fs) ∧ ∃ g1 g2, fs.toList = [g1, g2] ∧ g1.type = tBig ∧ g1.offset = 0 ∧ g2.type = tIs ∧ g2.offset = 2
  cB : P.cellsOf tB = 1
  cIs : P.cellsOf tIs = 1
  cBig : P.cellsOf tBig = 2
  cR : P.cellsOf tR = 3

theorem Types.tyc_r {tB tI tIs tBig tR : TypeId} (T : Types P tB tI tIs tBig tR) {f : Nat} {ys : List AV} (h : Tyc P f tR ys) : ∃ r : R, ys = [.b r.neg, ints r.num, ints r.den] ∧ r.ok := by
  obtain ⟨fs, hu, g1, g2, hfs, a1, a2, a3, a4⟩ := T.r
  obtain ⟨hl, f', hf⟩ := tyc_struct hu h
  rw [T.cR] at hl
  have k1 := hf g1 (by rw [hfs]; simp)
  have k2 := hf g2 (by rw [hfs]; simp)
  rw [a1, a2, T.cBig] at k1
  rw [a3, a4, T.cIs] at k2
  match ys, hl with
  | [x, y, z], _ =>
    simp only [List.drop_zero, List.take_succ_cons, List.take_zero, List.drop_succ_cons, List.take_nil] at k1 k2
    obtain ⟨fs', hu', h1, h2, hfs', b1, b2, b3, b4⟩ := T.big
    obtain ⟨_, f2, hf2⟩ := tyc_struct hu' k1
    have m1 := hf2 h1 (by rw [hfs']; simp)
    have m2 := hf2 h2 (by rw [hfs']; simp)
    rw [b1, b2, T.cB] at m1
    rw [b3, b4, T.cIs] at m2
    simp only [List.drop_zero, List.take_succ_cons, List.take_zero, List.drop_succ_cons, List.take_nil] at m1 m2
    obtain ⟨b, hb⟩ := tyc_bool T.b m1
    obtain ⟨xs, hx, lx⟩ := tyc_ints T.is T.i m2
    obtain ⟨zs, hz, lz⟩ := tyc_ints T.is T.i k2
    cases hb; cases hx; cases hz
    exact ⟨⟨b, xs, zs⟩, rfl, lx, lz⟩

theorem Types.tyc_rs {tB tI tIs tBig tR tRs : TypeId} (T : Types P tB tI tIs tBig tR) (hu : P.underlying tRs = some (.slice tR)) {f : Nat} {ys : List AV} (h : Tyc P f tRs ys) : ∃ rs : List R, ys = [rats rs] ∧ Rs.ok rs := by
  obtain ⟨f', es, rfl, hl, hz⟩ := tyc_slice hu h
  obtain ⟨l, h1, h2, h3⟩ := list_of (P := P) (e := tR) (mk := R.av) (Q := R.ok) es (fun z hz' => by
    obtain ⟨r, rfl, hr⟩ := T.tyc_r (hz z hz')
    obtain ⟨fs, hu, _⟩ := T.r
    exact ⟨r, by simp [mkE, aggT, hu]; rfl, hr⟩)
  refine ⟨l, by rw [h1]; rfl, ?_, h3⟩
  simp only [maxLen] at hl
  omega
end

/-- One argument that is a struct. -/
theorem arg_struct {H : Type} {enc : TypeId × Value → H} {P : Program} (hR : rowsOk P = true) {w : World} {t : TypeId} {fs : Array Field} (hu : P.underlying t = some (.struct fs)) (hlt : t < P.types.size) {v : Value} {d : DataW H} {ps : List MemPlace}
    (hok : ∃ cs, v = .agg cs) (h : DataW.Trod enc P w 0 (fun _ => true) true t v d ps) : ∃ f ys, Rep β0 ok0 w v (.agg ys) ∧ Tyc P f t ys := by
  obtain ⟨cs, rfl⟩ := hok
  obtain ⟨f, hf⟩ := h
  obtain ⟨ys, h1, h2, _⟩ := trod_rep (β := β0) (ok := ok0) (w := w) hR (ok0_all w) f t _ d ps hlt hf
  refine ⟨f, ys, .agg cs ys ?_ fun j y hy => ?_, h2⟩
  · have := h1.len; simpa [Value.cells] using this
  · have hj : j < cs.size := by
      have := h1.len
      have h2 := (List.getElem?_eq_some_iff.1 hy).1
      simp [Value.cells] at this; omega
    rw [Array.getElem?_eq_getElem hj]
    exact h1.at (by simp [Value.cells, hj]) hy

end Go.Am
