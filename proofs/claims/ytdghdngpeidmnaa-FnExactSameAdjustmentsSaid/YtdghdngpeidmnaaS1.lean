/-
  A part of the proof that the law FnExactSameAdjustments holds (abstract machine, walks, or the join). No conditions.
-/
import Derived.Test.YtdghdngpeidmnaaRows
import Derived.Test.YtdghdngpeidmnaaAmClose
import Derived.Test.YtdghdngpeidmnaaA6
namespace Go.Proofs.Ytdghdngpeidmnaa
open Go.ChangeShapes Go.WideShapes Go.ChangeAt Go.RowKit Go.Am
set_option linter.unusedVariables false

theorem Try.own : ownKnob Try.prog.godebug = none := by kernel_rfl
theorem Try.laidOut : laidOutB Try.prog = true := by kernel_rfl
theorem Try.rowsOk : rowsOk Try.prog = true := by kernel_rfl
theorem Try.types : Types Try.prog 4 3 23 25 27 := by
  refine ⟨Try.underlying4, Try.underlying3, Try.underlying23, ⟨_, Try.underlying25, _, _, rfl, rfl, rfl, rfl, rfl⟩, ⟨_, Try.underlying27, _, _, rfl, rfl, rfl, rfl, rfl⟩, ?_, ?_, ?_, ?_⟩ <;> kernel_rfl
theorem has_laws_FnExactSameAdjustments : Has Try.prog 3 (c_laws_FnExactSameAdjustments 9 11 10 12 13) := ⟨Try.f3, fun _ => false, false, Try.func3, by kernel_rfl⟩
theorem has_laws_szAdjustment : Has Try.prog 9 (c_laws_szAdjustment 52 25 53) := ⟨Try.f9, fun _ => false, false, Try.func9, by kernel_rfl⟩
theorem has_laws_toAdjustment : Has Try.prog 11 (c_laws_toAdjustment 57 27 58) := ⟨Try.f11, fun _ => false, false, Try.func11, by kernel_rfl⟩
theorem has_spec_SameAdjustments : Has Try.prog 10 (c_spec_SameAdjustments 54 55 56) := ⟨Try.f10, fun _ => false, false, Try.func10, by kernel_rfl⟩
theorem has_impl_SameAdjustments : Has Try.prog 12 (c_impl_SameAdjustments 43 59 60) := ⟨Try.f12, fun _ => false, false, Try.func12, by kernel_rfl⟩
theorem has_laws_eqAdjustment : Has Try.prog 13 (c_laws_eqAdjustment 61 29 62) := ⟨Try.f13, fun _ => false, false, Try.func13, by kernel_rfl⟩
theorem has_laws_szRatS : Has Try.prog 52 (c_laws_szRatS 25) := ⟨Try.f52, fun _ => false, false, Try.func52, by kernel_rfl⟩
theorem has_laws_szRat : Has Try.prog 25 (c_laws_szRat 83 84) := ⟨Try.f25, fun _ => false, false, Try.func25, by kernel_rfl⟩
theorem has_laws_szMatrix : Has Try.prog 53 (c_laws_szMatrix 52) := ⟨Try.f53, fun _ => false, false, Try.func53, by kernel_rfl⟩
theorem has_laws_szBigInt : Has Try.prog 83 (c_laws_szBigInt 84) := ⟨Try.f83, fun _ => false, false, Try.func83, by kernel_rfl⟩
theorem has_laws_szIntS : Has Try.prog 84 (c_laws_szIntS) := ⟨Try.f84, fun _ => false, false, Try.func84, by kernel_rfl⟩
theorem has_laws_toRatS : Has Try.prog 57 (c_laws_toRatS 27) := ⟨Try.f57, fun _ => false, false, Try.func57, by kernel_rfl⟩
theorem has_laws_toRat : Has Try.prog 27 (c_laws_toRat 87 88) := ⟨Try.f27, fun _ => false, false, Try.func27, by kernel_rfl⟩
theorem has_laws_toMatrix : Has Try.prog 58 (c_laws_toMatrix 57) := ⟨Try.f58, fun _ => false, false, Try.func58, by kernel_rfl⟩
theorem has_laws_toBigInt : Has Try.prog 87 (c_laws_toBigInt 88) := ⟨Try.f87, fun _ => false, false, Try.func87, by kernel_rfl⟩
theorem has_laws_toIntS : Has Try.prog 88 (c_laws_toIntS) := ⟨Try.f88, fun _ => false, false, Try.func88, by kernel_rfl⟩
theorem has_spec_RatEqual : Has Try.prog 54 (c_spec_RatEqual 118) := ⟨Try.f54, fun _ => false, false, Try.func54, by kernel_rfl⟩
theorem has_spec_EqualVectors : Has Try.prog 55 (c_spec_EqualVectors 54) := ⟨Try.f55, fun _ => false, false, Try.func55, by kernel_rfl⟩
theorem has_spec_EqualMatrices : Has Try.prog 56 (c_spec_EqualMatrices 55) := ⟨Try.f56, fun _ => false, false, Try.func56, by kernel_rfl⟩
theorem has_spec_l04List : Has Try.prog 118 (c_spec_l04List) := ⟨Try.f118, fun _ => false, false, Try.func118, by kernel_rfl⟩
theorem has_impl_RatEqual : Has Try.prog 43 (c_impl_RatEqual 114) := ⟨Try.f43, fun _ => false, false, Try.func43, by kernel_rfl⟩
theorem has_impl_EqualVectors : Has Try.prog 59 (c_impl_EqualVectors 43) := ⟨Try.f59, fun _ => false, false, Try.func59, by kernel_rfl⟩
theorem has_impl_EqualMatrices : Has Try.prog 60 (c_impl_EqualMatrices 59) := ⟨Try.f60, fun _ => false, false, Try.func60, by kernel_rfl⟩
theorem has_impl_sameInts : Has Try.prog 114 (c_impl_sameInts) := ⟨Try.f114, fun _ => false, false, Try.func114, by kernel_rfl⟩
theorem has_laws_eqRatS : Has Try.prog 61 (c_laws_eqRatS 29) := ⟨Try.f61, fun _ => false, false, Try.func61, by kernel_rfl⟩
theorem has_laws_eqRat : Has Try.prog 29 (c_laws_eqRat 91 92) := ⟨Try.f29, fun _ => false, false, Try.func29, by kernel_rfl⟩
theorem has_laws_eqMatrix : Has Try.prog 62 (c_laws_eqMatrix 61) := ⟨Try.f62, fun _ => false, false, Try.func62, by kernel_rfl⟩
theorem has_laws_eqBigInt : Has Try.prog 91 (c_laws_eqBigInt 92) := ⟨Try.f91, fun _ => false, false, Try.func91, by kernel_rfl⟩
theorem has_laws_eqIntS : Has Try.prog 92 (c_laws_eqIntS) := ⟨Try.f92, fun _ => false, false, Try.func92, by kernel_rfl⟩

theorem sizes (j : Adj) (hj : j.ok) (t : Int) (h0 : 0 ≤ t) (h1 : t < 9223372036854775808) : SC Try.prog 9 [j.av, .i .i64 t] (.i .i64 (szA j t)) := by
  have hr : ∀ r1 : R, r1.ok → ∀ t : Int, 0 ≤ t → t < 9223372036854775808 → SC Try.prog 25 [r1.av, .i .i64 t] (.i .i64 (szR r1 t)) := fun r hr t a b => szRat_sc has_laws_szRat (fun b xs hx t h0 h1 => szBigInt_sc has_laws_szBigInt has_laws_szIntS b xs hx t h0 h1) has_laws_szIntS r hr t a b
  have hv : ∀ rs : List R, Rs.ok rs → ∀ t : Int, 0 ≤ t → t < 9223372036854775808 → SC Try.prog 52 [rats rs, .i .i64 t] (.i .i64 (szRs rs t)) := fun rs hrs t a b => szRatS_sc has_laws_szRatS hr rs hrs t a b
  exact szAdjustment_sc has_laws_szAdjustment hv hr (fun m hm t a b => szMatrix_sc has_laws_szMatrix hv m hm t a b) j hj t h0 h1

theorem copies (j : Adj) (hj : j.sm) : DC Try.prog 11 [j.av] j.av := by
  have hr : ∀ r1 : R, r1.sm → DC Try.prog 27 [r1.av] r1.av := fun r hr => toRat_dc has_laws_toRat (fun b xs hx => toBigInt_dc has_laws_toBigInt has_laws_toIntS b xs hx) has_laws_toIntS r hr
  have hv : ∀ rs : List R, Rs.sm rs → DC Try.prog 57 [rats rs] (rats rs) := fun rs hrs => toRatS_dc has_laws_toRatS hr rs hrs
  exact toAdjustment_dc has_laws_toAdjustment hv hr (fun m hm => toMatrix_dc has_laws_toMatrix hv m hm) j hj

theorem sameS (s t : Adj) (hs : s.ok) (ht : t.ok) : SC Try.prog 10 [s.av, t.av] (.b (decide (s = t))) := by
  have hr : ∀ x y : R, x.ok → y.ok → SC Try.prog 54 [x.av, y.av] (.b (decide (x = y))) := fun x y hx hy => RatEqualS_sc has_spec_RatEqual has_spec_l04List x y hx hy
  have hv : ∀ xs ys : List R, Rs.ok xs → Rs.ok ys → SC Try.prog 55 [rats xs, rats ys] (.b (decide (xs = ys))) := fun xs ys hx hy => EqualVectorsS_sc has_spec_EqualVectors hr xs ys hx hy
  exact SameAdjustmentsS_sc has_spec_SameAdjustments hr hv (fun x y hx hy => EqualMatricesS_sc has_spec_EqualMatrices hv x y hx hy) s t hs ht

theorem sameI (s t : Adj) (hs : s.ok) (ht : t.ok) : SC Try.prog 12 [s.av, t.av] (.b (decide (s = t))) := by
  have hr : ∀ x y : R, x.ok → y.ok → SC Try.prog 43 [x.av, y.av] (.b (decide (x = y))) := fun x y hx hy => RatEqual_sc has_impl_RatEqual has_impl_sameInts x y hx hy
  have hv : ∀ xs ys : List R, Rs.ok xs → Rs.ok ys → SC Try.prog 59 [rats xs, rats ys] (.b (decide (xs = ys))) := fun xs ys hx hy => EqualVectors_sc has_impl_EqualVectors hr xs ys hx hy
  exact SameAdjustments_sc has_impl_SameAdjustments hr hv (fun x y hx hy => EqualMatrices_sc has_impl_EqualMatrices hv x y hx hy) s t hs ht

theorem eqA (s t : Adj) (hs : s.ok) (ht : t.ok) : SC Try.prog 13 [s.av, t.av] (.b (decide (s = t))) := by
  have hr : ∀ x y : R, x.ok → y.ok → SC Try.prog 29 [x.av, y.av] (.b (decide (x = y))) := fun x y hx hy => eqRat_sc has_laws_eqRat (fun a a' b b' hb hb' => eqBigInt_sc has_laws_eqBigInt has_laws_eqIntS a a' b b' hb hb') has_laws_eqIntS x y hx hy
  have hv : ∀ xs ys : List R, Rs.ok xs → Rs.ok ys → SC Try.prog 61 [rats xs, rats ys] (.b (decide (xs = ys))) := fun xs ys hx hy => eqRatS_sc has_laws_eqRatS hr xs ys hx hy
  exact eqAdjustment_sc has_laws_eqAdjustment hr hv (fun x y hx hy => eqMatrix_sc has_laws_eqMatrix hv x y hx hy) s t hs ht

theorem lawTrue (x y : Adj) (hx : x.ok) (hy : y.ok) : SC Try.prog 3 [x.av, y.av] (.b true) :=
  law_sc has_laws_FnExactSameAdjustments sizes copies sameS sameI eqA x y hx hy

set_option maxRecDepth 100000 in
theorem tyc_adj {f : Nat} {ys : List AV} (h : Tyc Try.prog f 31 ys) : ∃ j : Adj, .agg ys = j.av ∧ j.ok := by
  obtain ⟨hl, f', hf⟩ := tyc_struct Try.underlying31 h
  have c31 : Try.prog.cellsOf 31 = 10 := by kernel_rfl
  rw [c31] at hl
  have c3 : Try.prog.cellsOf 3 = 1 := by kernel_rfl
  have c22 : Try.prog.cellsOf 22 = 1 := by kernel_rfl
  have c29 : Try.prog.cellsOf 29 = 3 := by kernel_rfl
  have k1 := hf _ (List.mem_of_getElem? (i := 0) rfl)
  have k2 := hf _ (List.mem_of_getElem? (i := 1) rfl)
  have k3 := hf _ (List.mem_of_getElem? (i := 2) rfl)
  have k4 := hf _ (List.mem_of_getElem? (i := 3) rfl)
  have k5 := hf _ (List.mem_of_getElem? (i := 4) rfl)
  have k6 := hf _ (List.mem_of_getElem? (i := 5) rfl)
  simp only [c3, c22, c29, Try.types.cR] at k1 k2 k3 k4 k5 k6
  match ys, hl with
  | [a0, a1, a2, a3, a4, a5, a6, a7, a8, a9], _ =>
    simp only [List.drop_zero, List.take_succ_cons, List.take_zero, List.drop_succ_cons, List.take_nil] at k1 k2 k3 k4 k5 k6
    obtain ⟨n1, e1, _⟩ := tyc_int Try.underlying3 k1
    obtain ⟨x, e2, hx⟩ := Try.types.tyc_rs Try.underlying22 k2
    obtain ⟨y, e3, hy⟩ := Try.types.tyc_rs Try.underlying22 k3
    obtain ⟨r, e4, hr⟩ := Try.types.tyc_r k4
    obtain ⟨n5, e5, _⟩ := tyc_int Try.underlying3 k5
    obtain ⟨hl6, f6, hf6⟩ := tyc_struct Try.underlying29 k6
    have q1 := hf6 _ (List.mem_of_getElem? (i := 0) rfl)
    have q2 := hf6 _ (List.mem_of_getElem? (i := 1) rfl)
    have q3 := hf6 _ (List.mem_of_getElem? (i := 2) rfl)
    simp only [c3, c22] at q1 q2 q3
    simp only [List.drop_zero, List.take_succ_cons, List.take_zero, List.drop_succ_cons, List.take_nil] at q1 q2 q3
    obtain ⟨m1, g1, _⟩ := tyc_int Try.underlying3 q1
    obtain ⟨m2, g2, _⟩ := tyc_int Try.underlying3 q2
    obtain ⟨z, g3, hz⟩ := Try.types.tyc_rs Try.underlying22 q3
    cases e1; cases e2; cases e3; cases e4; cases e5; cases g1; cases g2; cases g3
    exact ⟨⟨n1, x, y, r, n5, ⟨m1, m2, z⟩⟩, rfl, hx, hy, hr, hz⟩

set_option maxRecDepth 100000 in
theorem same_lifted (os : Os) (started : os.Started) (H : Type) (enc : TypeId × Value → H) :
    ReturnsInHanded {} Try.checked os 3 .any (Rows.fnExactSameAdjustmentsSpec.pre6 enc Try.prog Try.f3 Rows.fnExactSameAdjustmentsRow.domain false) (Rows.fnExactSameAdjustmentsSpec.post enc Try.prog Try.f3 false true false false) := by
  refine returnsInHanded_of_change (C := Try.checked) Try.own started (by kernel_rfl) Try.func3
    (ChangeSpec.witness6 (enc := enc) (C := Try.checked) false ⟨#[], #[.agg #[.int .i64 0, .slice none 0 0, .slice none 0 0, .bool false, .slice none 0 0, .slice none 0 0, .int .i64 0, .int .i64 0, .int .i64 0, .slice none 0 0], .agg #[.int .i64 0, .slice none 0 0, .slice none 0 0, .bool false, .slice none 0 0, .slice none 0 0, .int .i64 0, .int .i64 0, .int .i64 0, .slice none 0 0]], []⟩ 8 (by kernel_rfl) (by kernel_rfl) (by kernel_rfl) (by kernel_rfl)) ?_
  intro W base args ds gs before hval0 hW hcnd _
  have hval : ∀ (j : Nat) t v, Try.f3.params[j]? = some t → args[j]? = some v → Value.okWide Try.prog W .any base t v := hval0
  have hW' := hW
  obtain ⟨p, q, hA0, hV, rfl, hfz, hnd⟩ := hW
  have hA : DataW.TrodAll enc Try.prog W 0 (fun _ => true) true Try.f3.params.toList args.toList ds p := hA0
  rw [Try.params3] at hA hval
  obtain ⟨v0, v1, d0, d1, p0, p1, rfl, rfl, rfl, h0, h1⟩ := trodAll_two hA
  obtain ⟨rfl, rfl⟩ := trodVars_none hV
  have s0 : ∃ cs, v0 = .agg cs := by
    have := hval 0 31 v0 rfl rfl
    simp only [Value.okWide, Try.underlying31] at this
    obtain ⟨cs, h, _⟩ := this
    exact ⟨cs, h⟩
  have s1 : ∃ cs, v1 = .agg cs := by
    have := hval 1 31 v1 rfl rfl
    simp only [Value.okWide, Try.underlying31] at this
    obtain ⟨cs, h, _⟩ := this
    exact ⟨cs, h⟩
  have hlt : 31 < Try.prog.types.size := of_decide_eq_true (by kernel_rfl)
  obtain ⟨_, y0, r0, t0⟩ := arg_struct Try.rowsOk Try.underlying31 hlt s0 h0
  obtain ⟨_, y1, r1, t1⟩ := arg_struct Try.rowsOk Try.underlying31 hlt s1 h1
  obtain ⟨j0, e0, k0⟩ := tyc_adj t0
  obtain ⟨j1, e1, k1⟩ := tyc_adj t1
  rw [e0] at r0
  rw [e1] at r1
  refine (law_calls (lawTrue j0 j1 k0 k1) (W := W) (cargs := #[v0, v1]) ⟨rfl, fun j y hj => ?_⟩).mono fun e W' ⟨he, hb⟩ => ?_
  · match j, hj with
    | 0, hj => simp at hj; subst hj; exact r0
    | 1, hj => simp at hj; subst hj; exact r1
  · subst he
    exact ⟨_, rfl, post_below Try.laidOut (by rw [Try.params3]; intro t ht; simp at ht; subst ht; exact ⟨by kernel_rfl, hlt⟩) rfl hW' hb rfl rfl
      (fun _ _ _ => trodAll_mk1 (shut_bool Try.underlying4 true)) (ok_one (by kernel_rfl) rfl (okWide_bool_mk Try.underlying4 true))⟩

theorem FnExactSameAdjustments_holds : Rows.FnExactSameAdjustmentsSaid :=
  OpenClaim.holds_of_wide 3 Try.f3 rfl rfl rfl rfl rfl rfl rfl ⟨rfl, rfl, rfl, rfl, rfl⟩ rfl rfl rfl rfl rfl (by kernel_rfl) Try.func3 (by kernel_rfl)
    (of_decide_eq_true (by kernel_rfl)) (by unfold Func.isWrapper; first | (rw [if_pos (by decide +kernel)]; kernel_rfl) | (rw [if_neg (by decide +kernel)]; exact ⟨rfl, rfl⟩))
    (fun os started H enc _ => same_lifted os started H enc)

end Go.Proofs.Ytdghdngpeidmnaa
