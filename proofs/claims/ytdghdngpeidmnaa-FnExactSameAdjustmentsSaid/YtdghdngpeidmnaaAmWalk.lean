/-
  A part of the proof that the law FnExactSameAdjustments holds (abstract machine, walks, or the join). No conditions.
-/
import Derived.Test.YtdghdngpeidmnaaAmGo
import Derived.Laws.BitsLemmas
/-! What every walk uses. -/
namespace Go.Am
set_option linter.unusedVariables false

def ints (xs : List Int) : AV := .sl none (xs.map (.i .i64))

theorem set_at {fr : Fr} {d u : Nat} {v : AV} : (fr.set d v) u = if u = d then v else fr u := rfl
theorem put_some {fr : Fr} {d : Nat} {v : AV} : fr.put (some d) v = fr.set d v := rfl
theorem put_none {fr : Fr} {v : AV} : fr.put none v = fr := rfl
theorem ev_t {fr : Fr} {n : Nat} : (AO.t n).ev fr = fr n := rfl
theorem ev_c {fr : Fr} {v : AV} : (AO.c v).ev fr = v := rfl
theorem frOf_at {args : List AV} {d : Nat} : frOf args d = (args[d]?).getD .top := rfl
theorem upd_at {H : Heap} {t u : Nat} {b : Blk} : (H.upd t b) u = if u = t then some b else H u := rfl
theorem off_at {H : Heap} {t u : Nat} : (H.off t) u = if u = t then none else H u := rfl

theorem wrap_id {x : Int} (h1 : -9223372036854775808 ≤ x) (h2 : x < 9223372036854775808) : IntKind.i64.wrap x = x := by
  rw [IntKind.wrap_i64]; omega

theorem wrap_i64 {x : Int} {y : Nat} (h : x = y) (hy : (y : Int) < 9223372036854775808) : IntKind.i64.wrap x = y := by
  rw [h]; exact wrap_id (by omega) hy

theorem data_b {x y : Bool} {U : Prop} {H : Heap} {n : Nat} (h : x = y) : Data (fun _ => .b y) 0 U (.b x) H n := by
  subst h; exact Data.flat (.b _)

theorem data_i {k : IntKind} {x y : Int} {U : Prop} {H : Heap} {n : Nat} (h : x = y) : Data (fun _ => .i k y) 0 U (.i k x) H n := by
  subst h; exact Data.flat (.i _ _)


/-! Data of the program. -/
structure R where
  neg : Bool
  num : List Int
  den : List Int
  deriving DecidableEq

def R.av (r : R) : AV := .agg [.b r.neg, ints r.num, ints r.den]
def rats (rs : List R) : AV := .sl none (rs.map R.av)

structure M where
  rows : Int
  cols : Int
  els : List R
  deriving DecidableEq

def M.av (m : M) : AV := .agg [.i .i64 m.rows, .i .i64 m.cols, rats m.els]



def R.ok (r : R) : Prop := r.num.length < 9223372036854775808 ∧ r.den.length < 9223372036854775808
def Rs.ok (rs : List R) : Prop := rs.length < 9223372036854775808 ∧ ∀ r ∈ rs, r.ok

theorem dat_ints (xs : List Int) : Dat (ints xs) := by
  refine .sl _ fun x hx y hy => ?_
  simp only [List.mem_map] at hx
  obtain ⟨n, _, rfl⟩ := hx
  simp only [AV.cells, List.mem_singleton] at hy
  subst hy
  exact .i _ _
theorem dat_nil : ∀ x ∈ ([] : List AV), Dat x := fun x hx => by cases hx
theorem dat_cons {a : AV} {l : List AV} (h : Dat a) (hl : ∀ x ∈ l, Dat x) : ∀ x ∈ a :: l, Dat x := by
  intro x hx
  rcases List.mem_cons.1 hx with rfl | hx
  · exact h
  · exact hl x hx
theorem R.dat (r : R) : Dat r.av := .agg _ (dat_cons (.b _) (dat_cons (dat_ints _) (dat_cons (dat_ints _) dat_nil)))
theorem rats_cells {rs : List R} : ∀ x ∈ rs.map R.av, ∀ y ∈ x.cells, Dat y := by
  intro x hx y hy
  simp only [List.mem_map] at hx
  obtain ⟨r, _, rfl⟩ := hx
  exact (dat_cons (.b _) (dat_cons (dat_ints _) (dat_cons (dat_ints _) dat_nil))) y hy
theorem dat_rats (rs : List R) : Dat (rats rs) := .sl _ rats_cells
theorem M.dat (m : M) : Dat m.av := .agg _ (dat_cons (.i _ _) (dat_cons (.i _ _) (dat_cons (dat_rats _) dat_nil)))

theorem Data.dat {r : AV} {H : Heap} {n : Nat} (h : Dat r) : Data (fun _ => r) 0 True r H n := ⟨fun _ => 0, fun k k' h => by omega, fun n => h.vw⟩

/-- An own block, handed back as data. -/
theorem data_rf {H : Heap} {n t z m : Nat} {es ys : List AV} (hH : H t = some (z, es)) (he : es = ys) (hm : m = ys.length) (hd : ∀ x ∈ ys, ∀ y ∈ x.cells, Dat y) : Data (fun _ => .sl none ys) 0 True (.rf t 0 m) H n := by
  subst he; subst hm
  refine ⟨fun _ => 0, fun k k' h => by omega, fun n => ?_⟩
  refine .rf t 0 es.length z es none es trivial hH (by omega) (fun _ => trivial) (fun k hk => by cases hk) rfl ?_ ?_
  · intro j x y hx hy
    simp only [List.drop_zero, List.take_length] at hx
    rw [hx] at hy; cases hy; rfl
  · intro j x y k p q hx hy hp hq
    simp only [List.drop_zero, List.take_length] at hx
    rw [hx] at hy; cases hy
    rw [hp] at hq; cases hq
    exact (hd x (List.mem_of_getElem? hx) p (List.mem_of_getElem? hp)).vw


/-! Values that stand in one cell. -/
theorem cellOk_b {x : Bool} : cellOk (.b x : AV) = true := rfl
theorem cells_b {x : Bool} : AV.cells (.b x : AV) = [.b x] := rfl
theorem isTop_b {x : Bool} : AV.isTop (.b x : AV) = false := rfl
theorem cellOk_i {k : IntKind} {n : Int} : cellOk (.i k n : AV) = true := rfl
theorem cells_i {k : IntKind} {n : Int} : AV.cells (.i k n : AV) = [.i k n] := rfl
theorem isTop_i {k : IntKind} {n : Int} : AV.isTop (.i k n : AV) = false := rfl
theorem cellOk_s {x : ByteArray} : cellOk (.s x : AV) = true := rfl
theorem cells_s {x : ByteArray} : AV.cells (.s x : AV) = [.s x] := rfl
theorem isTop_s {x : ByteArray} : AV.isTop (.s x : AV) = false := rfl
theorem cellOk_nl  : cellOk (.nl : AV) = true := rfl
theorem cells_nl  : AV.cells (.nl : AV) = [.nl] := rfl
theorem isTop_nl  : AV.isTop (.nl : AV) = false := rfl
theorem cellOk_sl {t : Option Nat} {xs : List AV} : cellOk (.sl t xs : AV) = true := rfl
theorem cells_sl {t : Option Nat} {xs : List AV} : AV.cells (.sl t xs : AV) = [.sl t xs] := rfl
theorem isTop_sl {t : Option Nat} {xs : List AV} : AV.isTop (.sl t xs : AV) = false := rfl
theorem cellOk_rf {t s n : Nat} : cellOk (.rf t s n : AV) = true := rfl
theorem cells_rf {t s n : Nat} : AV.cells (.rf t s n : AV) = [.rf t s n] := rfl
theorem isTop_rf {t s n : Nat} : AV.isTop (.rf t s n : AV) = false := rfl
theorem cellOk_pr {e : AV} {o : Nat} : cellOk (.pr e o : AV) = true := rfl
theorem cells_pr {e : AV} {o : Nat} : AV.cells (.pr e o : AV) = [.pr e o] := rfl
theorem isTop_pr {e : AV} {o : Nat} : AV.isTop (.pr e o : AV) = false := rfl
theorem cellOk_ad {t i o : Nat} : cellOk (.ad t i o : AV) = true := rfl
theorem cells_ad {t i o : Nat} : AV.cells (.ad t i o : AV) = [.ad t i o] := rfl
theorem isTop_ad {t i o : Nat} : AV.isTop (.ad t i o : AV) = false := rfl
theorem cellOk_fn {f : Nat} {cs : List AV} : cellOk (.fn f cs : AV) = true := rfl
theorem cells_fn {f : Nat} {cs : List AV} : AV.cells (.fn f cs : AV) = [.fn f cs] := rfl
theorem isTop_fn {f : Nat} {cs : List AV} : AV.isTop (.fn f cs : AV) = false := rfl
theorem cellOk_ints {xs : List Int} : cellOk (ints xs : AV) = true := rfl
theorem cells_ints {xs : List Int} : AV.cells (ints xs : AV) = [ints xs] := rfl
theorem isTop_ints {xs : List Int} : AV.isTop (ints xs : AV) = false := rfl
theorem cellOk_rats {xs : List R} : cellOk (rats xs : AV) = true := rfl
theorem cells_rats {xs : List R} : AV.cells (rats xs : AV) = [rats xs] := rfl
theorem isTop_rats {xs : List R} : AV.isTop (rats xs : AV) = false := rfl
theorem cells_agg {cs : List AV} : AV.cells (.agg cs) = cs := rfl
theorem isTop_agg {cs : List AV} : AV.isTop (.agg cs) = false := rfl
theorem cells_R {r : R} : AV.cells r.av = [.b r.neg, ints r.num, ints r.den] := rfl
theorem isTop_R {r : R} : AV.isTop r.av = false := rfl

end Go.Am
