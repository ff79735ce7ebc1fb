/- The join: the law FnExactAbsoluteOf of the program returns true for every input. No conditions. -/
import Derived.Test.YtdghdngpeidmnaaRows
import Derived.Test.YtdghdngpeidmnaaAb5
namespace Go.Proofs.Ytdghdngpeidmnaa
open Go.ChangeShapes Go.WideShapes Go.ChangeAt Go.RowKit Go.Am
set_option linter.unusedVariables false

theorem Try.own : ownKnob Try.prog.godebug = none := by kernel_rfl
theorem Try.laidOut : laidOutB Try.prog = true := by kernel_rfl
theorem Try.rowsOk : rowsOk Try.prog = true := by kernel_rfl
theorem Try.types : Types Try.prog 4 3 23 25 27 := by
  refine ⟨Try.underlying4, Try.underlying3, Try.underlying23, ⟨_, Try.underlying25, _, _, rfl, rfl, rfl, rfl, rfl⟩, ⟨_, Try.underlying27, _, _, rfl, rfl, rfl, rfl, rfl⟩, ?_, ?_, ?_, ?_⟩ <;> kernel_rfl
def rws (k : Nat) : Bool := [105, 104, 113, 134, 100, 98, 112, 151, 149].contains k
theorem has_laws_szIntS : Has Try.prog 84 (c_laws_szIntS) := ⟨Try.f84, rws, false, Try.func84, by kernel_rfl⟩
theorem has_laws_szBigInt : Has Try.prog 83 (c_laws_szBigInt 84) := ⟨Try.f83, rws, false, Try.func83, by kernel_rfl⟩
theorem has_laws_szRat : Has Try.prog 25 (c_laws_szRat 83 84) := ⟨Try.f25, rws, false, Try.func25, by kernel_rfl⟩
theorem has_laws_toIntS : Has Try.prog 88 (c_laws_toIntS) := ⟨Try.f88, rws, false, Try.func88, by kernel_rfl⟩
theorem has_laws_toBigInt : Has Try.prog 87 (c_laws_toBigInt 88) := ⟨Try.f87, rws, false, Try.func87, by kernel_rfl⟩
theorem has_laws_toRat : Has Try.prog 27 (c_laws_toRat 87 88) := ⟨Try.f27, rws, false, Try.func27, by kernel_rfl⟩
theorem has_spec_l01In : Has Try.prog 141 (c_spec_l01In) := ⟨Try.f141, rws, false, Try.func141, by kernel_rfl⟩
theorem has_spec_NatOk : Has Try.prog 125 (c_spec_NatOk 141) := ⟨Try.f125, rws, false, Try.func125, by kernel_rfl⟩
theorem has_spec_BigIntOk : Has Try.prog 124 (c_spec_BigIntOk 125) := ⟨Try.f124, rws, false, Try.func124, by kernel_rfl⟩
theorem has_spec_l02Cmp : Has Try.prog 155 (c_spec_l02Cmp) := ⟨Try.f155, rws, false, Try.func155, by kernel_rfl⟩
theorem has_spec_NatToInt : Has Try.prog 142 (c_spec_NatToInt 125 155) := ⟨Try.f142, rws, false, Try.func142, by kernel_rfl⟩
theorem has_spec_NatOf : Has Try.prog 156 (c_spec_NatOf) := ⟨Try.f156, rws, false, Try.func156, by kernel_rfl⟩
theorem has_spec_l02Plain : Has Try.prog 143 (c_spec_l02Plain 156) := ⟨Try.f143, rws, false, Try.func143, by kernel_rfl⟩
theorem has_spec_l02Trim : Has Try.prog 98 (c_spec_l02Trim) := ⟨Try.f98, rws, false, Try.func98, by kernel_rfl⟩
theorem has_spec_l02Small : Has Try.prog 157 (c_spec_l02Small 98) := ⟨Try.f157, rws, false, Try.func157, by kernel_rfl⟩
theorem has_spec_l02Mul : Has Try.prog 154 (c_spec_l02Mul 98) := ⟨Try.f154, rws, false, Try.func154, by kernel_rfl⟩
theorem has_spec_l02Digit : Has Try.prog 158 (c_spec_l02Digit 156 154 155) := ⟨Try.f158, rws, false, Try.func158, by kernel_rfl⟩
theorem has_spec_l02Sub : Has Try.prog 159 (c_spec_l02Sub 98) := ⟨Try.f159, rws, false, Try.func159, by kernel_rfl⟩
theorem has_spec_l02Div : Has Try.prog 144 (c_spec_l02Div 157 156 98 155 158 154 159) := ⟨Try.f144, rws, false, Try.func144, by kernel_rfl⟩
theorem has_spec_l02Gcd : Has Try.prog 127 (c_spec_l02Gcd 142 143 144) := ⟨Try.f127, rws, false, Try.func127, by kernel_rfl⟩
theorem has_spec_l04One : Has Try.prog 126 (c_spec_l04One) := ⟨Try.f126, rws, false, Try.func126, by kernel_rfl⟩
theorem has_spec_RatOk : Has Try.prog 85 (c_spec_RatOk 124 125 127 126) := ⟨Try.f85, rws, false, Try.func85, by kernel_rfl⟩
theorem has_spec_l02Cap : Has Try.prog 145 (c_spec_l02Cap 98) := ⟨Try.f145, rws, false, Try.func145, by kernel_rfl⟩
theorem has_spec_l03Make : Has Try.prog 128 (c_spec_l03Make 145) := ⟨Try.f128, rws, false, Try.func128, by kernel_rfl⟩
theorem has_spec_l19Abs : Has Try.prog 86 (c_spec_l19Abs 128) := ⟨Try.f86, rws, false, Try.func86, by kernel_rfl⟩
theorem has_spec_AbsoluteOf : Has Try.prog 26 (c_spec_AbsoluteOf 85 86) := ⟨Try.f26, rws, false, Try.func26, by kernel_rfl⟩
theorem has_impl_NatOk : Has Try.prog 77 (c_impl_NatOk) := ⟨Try.f77, rws, false, Try.func77, by kernel_rfl⟩
theorem has_impl_BigIntOk : Has Try.prog 76 (c_impl_BigIntOk 77) := ⟨Try.f76, rws, false, Try.func76, by kernel_rfl⟩
theorem has_impl_natCmp : Has Try.prog 107 (c_impl_natCmp) := ⟨Try.f107, rws, false, Try.func107, by kernel_rfl⟩
theorem has_impl_copyInts : Has Try.prog 120 (c_impl_copyInts) := ⟨Try.f120, rws, false, Try.func120, by kernel_rfl⟩
theorem has_impl_trim : Has Try.prog 134 (c_impl_trim) := ⟨Try.f134, rws, false, Try.func134, by kernel_rfl⟩
theorem has_impl_NatOf : Has Try.prog 106 (c_impl_NatOf) := ⟨Try.f106, rws, false, Try.func106, by kernel_rfl⟩
theorem has_impl_divSmall : Has Try.prog 133 (c_impl_divSmall 134 106) := ⟨Try.f133, rws, false, Try.func133, by kernel_rfl⟩
theorem has_impl_natMul : Has Try.prog 108 (c_impl_natMul 134) := ⟨Try.f108, rws, false, Try.func108, by kernel_rfl⟩
theorem has_impl_natDiv : Has Try.prog 103 (c_impl_natDiv 107 120 133 108 134) := ⟨Try.f103, rws, false, Try.func103, by kernel_rfl⟩
theorem has_impl_natGcd : Has Try.prog 79 (c_impl_natGcd 103 120) := ⟨Try.f79, rws, false, Try.func79, by kernel_rfl⟩
theorem has_impl_isOne : Has Try.prog 78 (c_impl_isOne) := ⟨Try.f78, rws, false, Try.func78, by kernel_rfl⟩
theorem has_impl_RatOk : Has Try.prog 21 (c_impl_RatOk 76 77 79 78) := ⟨Try.f21, rws, false, Try.func21, by kernel_rfl⟩
theorem has_impl_void : Has Try.prog 69 (c_impl_void) := ⟨Try.f69, rws, false, Try.func69, by kernel_rfl⟩
theorem has_impl_signed : Has Try.prog 105 (c_impl_signed) := ⟨Try.f105, rws, false, Try.func105, by kernel_rfl⟩
theorem has_impl_bigNeg : Has Try.prog 129 (c_impl_bigNeg 120 105) := ⟨Try.f129, rws, false, Try.func129, by kernel_rfl⟩
theorem has_impl_neg : Has Try.prog 89 (c_impl_neg 69 129 120) := ⟨Try.f89, rws, false, Try.func89, by kernel_rfl⟩
theorem has_impl_copyRat : Has Try.prog 90 (c_impl_copyRat 120) := ⟨Try.f90, rws, false, Try.func90, by kernel_rfl⟩
theorem has_impl_AbsoluteOf : Has Try.prog 28 (c_impl_AbsoluteOf 21 89 90) := ⟨Try.f28, rws, false, Try.func28, by kernel_rfl⟩
theorem has_laws_eqIntS : Has Try.prog 92 (c_laws_eqIntS) := ⟨Try.f92, rws, false, Try.func92, by kernel_rfl⟩
theorem has_laws_eqBigInt : Has Try.prog 91 (c_laws_eqBigInt 92) := ⟨Try.f91, rws, false, Try.func91, by kernel_rfl⟩
theorem has_laws_eqRat : Has Try.prog 29 (c_laws_eqRat 91 92) := ⟨Try.f29, rws, false, Try.func29, by kernel_rfl⟩
theorem has_laws_markIntS : Has Try.prog 94 (c_laws_markIntS) := ⟨Try.f94, rws, false, Try.func94, by kernel_rfl⟩
theorem has_laws_markBigInt : Has Try.prog 93 (c_laws_markBigInt 94) := ⟨Try.f93, rws, false, Try.func93, by kernel_rfl⟩
theorem has_laws_markRat : Has Try.prog 30 (c_laws_markRat 93 94) := ⟨Try.f30, rws, false, Try.func30, by kernel_rfl⟩
theorem has_laws_heldIntS : Has Try.prog 96 (c_laws_heldIntS) := ⟨Try.f96, rws, false, Try.func96, by kernel_rfl⟩
theorem has_laws_heldBigInt : Has Try.prog 95 (c_laws_heldBigInt 96) := ⟨Try.f95, rws, false, Try.func95, by kernel_rfl⟩
theorem has_laws_heldRat : Has Try.prog 31 (c_laws_heldRat 95 96) := ⟨Try.f31, rws, false, Try.func31, by kernel_rfl⟩
theorem has_laws_FnExactAbsoluteOf : Has Try.prog 5 (c_laws_FnExactAbsoluteOf 25 27 26 28 29 30 31) := ⟨Try.f5, rws, false, Try.func5, by kernel_rfl⟩
theorem k_laws_szIntS : K_laws_szIntS Try.prog 84 := t_laws_szIntS has_laws_szIntS
theorem k_laws_szBigInt : K_laws_szBigInt Try.prog 83 := t_laws_szBigInt has_laws_szBigInt k_laws_szIntS
theorem k_laws_szRat : K_laws_szRat Try.prog 25 := t_laws_szRat has_laws_szRat k_laws_szBigInt k_laws_szIntS
theorem k_laws_toIntS : K_laws_toIntS Try.prog 88 := t_laws_toIntS has_laws_toIntS
theorem k_laws_toBigInt : K_laws_toBigInt Try.prog 87 := t_laws_toBigInt has_laws_toBigInt k_laws_toIntS
theorem k_laws_toRat : K_laws_toRat Try.prog 27 := t_laws_toRat has_laws_toRat k_laws_toBigInt k_laws_toIntS
theorem k_spec_l01In : K_spec_l01In Try.prog 141 := t_spec_l01In has_spec_l01In
theorem k_spec_NatOk : K_spec_NatOk Try.prog 125 := t_spec_NatOk has_spec_NatOk k_spec_l01In
theorem k_spec_BigIntOk : K_spec_BigIntOk Try.prog 124 := t_spec_BigIntOk has_spec_BigIntOk k_spec_NatOk
theorem k_spec_l02Cmp : K_spec_l02Cmp Try.prog 155 := t_spec_l02Cmp has_spec_l02Cmp
theorem k_spec_NatToInt : K_spec_NatToInt Try.prog 142 := t_spec_NatToInt has_spec_NatToInt k_spec_NatOk k_spec_l02Cmp
theorem k_spec_NatOf : K_spec_NatOf Try.prog 156 := t_spec_NatOf has_spec_NatOf
theorem k_spec_l02Plain : K_spec_l02Plain Try.prog 143 := t_spec_l02Plain has_spec_l02Plain k_spec_NatOf
theorem k_spec_l02Trim : K_spec_l02Trim Try.prog 98 := t_spec_l02Trim has_spec_l02Trim
theorem k_spec_l02Small : K_spec_l02Small Try.prog 157 := t_spec_l02Small has_spec_l02Small k_spec_l02Trim
theorem k_spec_l02Mul : K_spec_l02Mul Try.prog 154 := t_spec_l02Mul has_spec_l02Mul k_spec_l02Trim
theorem k_spec_l02Digit : K_spec_l02Digit Try.prog 158 := t_spec_l02Digit has_spec_l02Digit k_spec_NatOf k_spec_l02Mul k_spec_l02Cmp
theorem k_spec_l02Sub : K_spec_l02Sub Try.prog 159 := t_spec_l02Sub has_spec_l02Sub k_spec_l02Trim
theorem k_spec_l02Div : K_spec_l02Div Try.prog 144 := t_spec_l02Div has_spec_l02Div k_spec_l02Small k_spec_NatOf k_spec_l02Trim k_spec_l02Cmp k_spec_l02Digit k_spec_l02Mul k_spec_l02Sub
theorem k_spec_l02Gcd : K_spec_l02Gcd Try.prog 127 := t_spec_l02Gcd has_spec_l02Gcd k_spec_NatToInt k_spec_l02Plain k_spec_l02Div
theorem k_spec_l04One : K_spec_l04One Try.prog 126 := t_spec_l04One has_spec_l04One
theorem k_spec_RatOk : K_spec_RatOk Try.prog 85 := t_spec_RatOk has_spec_RatOk k_spec_BigIntOk k_spec_NatOk k_spec_l02Gcd k_spec_l04One
theorem k_spec_l02Cap : K_spec_l02Cap Try.prog 145 := t_spec_l02Cap has_spec_l02Cap k_spec_l02Trim
theorem k_spec_l03Make : K_spec_l03Make Try.prog 128 := t_spec_l03Make has_spec_l03Make k_spec_l02Cap
theorem k_spec_l19Abs : K_spec_l19Abs Try.prog 86 := t_spec_l19Abs has_spec_l19Abs k_spec_l03Make
theorem k_spec_AbsoluteOf : K_spec_AbsoluteOf Try.prog 26 := t_spec_AbsoluteOf has_spec_AbsoluteOf k_spec_RatOk k_spec_l19Abs
theorem k_impl_NatOk : K_impl_NatOk Try.prog 77 := t_impl_NatOk has_impl_NatOk
theorem k_impl_BigIntOk : K_impl_BigIntOk Try.prog 76 := t_impl_BigIntOk has_impl_BigIntOk k_impl_NatOk
theorem k_impl_natCmp : K_impl_natCmp Try.prog 107 := t_impl_natCmp has_impl_natCmp
theorem k_impl_copyInts : K_impl_copyInts Try.prog 120 := t_impl_copyInts has_impl_copyInts
theorem k_impl_trim : K_impl_trim Try.prog 134 := t_impl_trim has_impl_trim
theorem k_impl_NatOf : K_impl_NatOf Try.prog 106 := t_impl_NatOf has_impl_NatOf
theorem k_impl_divSmall : K_impl_divSmall Try.prog 133 := t_impl_divSmall has_impl_divSmall k_impl_trim k_impl_NatOf
theorem k_impl_natMul : K_impl_natMul Try.prog 108 := t_impl_natMul has_impl_natMul k_impl_trim
theorem k_impl_natDiv : K_impl_natDiv Try.prog 103 := t_impl_natDiv has_impl_natDiv k_impl_natCmp k_impl_copyInts k_impl_divSmall k_impl_natMul k_impl_trim
theorem k_impl_natGcd : K_impl_natGcd Try.prog 79 := t_impl_natGcd has_impl_natGcd k_impl_natDiv k_impl_copyInts
theorem k_impl_isOne : K_impl_isOne Try.prog 78 := t_impl_isOne has_impl_isOne
theorem k_impl_RatOk : K_impl_RatOk Try.prog 21 := t_impl_RatOk has_impl_RatOk k_impl_BigIntOk k_impl_NatOk k_impl_natGcd k_impl_isOne
theorem k_impl_void : K_impl_void Try.prog 69 := t_impl_void has_impl_void
theorem k_impl_signed : K_impl_signed Try.prog 105 := t_impl_signed has_impl_signed
theorem k_impl_bigNeg : K_impl_bigNeg Try.prog 129 := t_impl_bigNeg has_impl_bigNeg k_impl_copyInts k_impl_signed
theorem k_impl_neg : K_impl_neg Try.prog 89 := t_impl_neg has_impl_neg k_impl_void k_impl_bigNeg k_impl_copyInts
theorem k_impl_copyRat : K_impl_copyRat Try.prog 90 := t_impl_copyRat has_impl_copyRat k_impl_copyInts
theorem k_impl_AbsoluteOf : K_impl_AbsoluteOf Try.prog 28 := t_impl_AbsoluteOf has_impl_AbsoluteOf k_impl_RatOk k_impl_neg k_impl_copyRat
theorem k_laws_eqIntS : K_laws_eqIntS Try.prog 92 := t_laws_eqIntS has_laws_eqIntS
theorem k_laws_eqBigInt : K_laws_eqBigInt Try.prog 91 := t_laws_eqBigInt has_laws_eqBigInt k_laws_eqIntS
theorem k_laws_eqRat : K_laws_eqRat Try.prog 29 := t_laws_eqRat has_laws_eqRat k_laws_eqBigInt k_laws_eqIntS
theorem k_laws_markIntS : K_laws_markIntS Try.prog 94 := t_laws_markIntS has_laws_markIntS
theorem k_laws_markBigInt : K_laws_markBigInt Try.prog 93 := t_laws_markBigInt has_laws_markBigInt k_laws_markIntS
theorem k_laws_markRat : K_laws_markRat Try.prog 30 := t_laws_markRat has_laws_markRat k_laws_markBigInt k_laws_markIntS
theorem k_laws_heldIntS : K_laws_heldIntS Try.prog 96 := t_laws_heldIntS has_laws_heldIntS
theorem k_laws_heldBigInt : K_laws_heldBigInt Try.prog 95 := t_laws_heldBigInt has_laws_heldBigInt k_laws_heldIntS
theorem k_laws_heldRat : K_laws_heldRat Try.prog 31 := t_laws_heldRat has_laws_heldRat k_laws_heldBigInt k_laws_heldIntS
theorem k_laws_FnExactAbsoluteOf : K_laws_FnExactAbsoluteOf Try.prog 5 := t_laws_FnExactAbsoluteOf has_laws_FnExactAbsoluteOf k_laws_szRat k_laws_toRat k_spec_AbsoluteOf k_impl_AbsoluteOf k_laws_eqRat k_laws_markRat k_laws_heldRat

set_option maxRecDepth 100000 in
theorem lifted (os : Os) (started : os.Started) (H : Type) (enc : TypeId × Value → H) :
    ReturnsInHanded {} Try.checked os 5 .any (Rows.fnExactAbsoluteOfSpec.pre6 enc Try.prog Try.f5 Rows.fnExactAbsoluteOfRow.domain false) (Rows.fnExactAbsoluteOfSpec.post enc Try.prog Try.f5 false true false false) := by
  refine returnsInHanded_of_change (C := Try.checked) Try.own started (by kernel_rfl) Try.func5
    (ChangeSpec.witness6 (enc := enc) (C := Try.checked) false ⟨#[], #[.agg #[.bool false, .slice none 0 0, .slice none 0 0]], []⟩ 8 (by kernel_rfl) (by kernel_rfl) (by kernel_rfl) (by kernel_rfl)) ?_
  intro W base args ds gs before hval0 hW hcnd _
  have hval : ∀ (j : Nat) t v, Try.f5.params[j]? = some t → args[j]? = some v → Value.okWide Try.prog W .any base t v := hval0
  have hW' := hW
  obtain ⟨p, q, hA0, hV, rfl, hfz, hnd⟩ := hW
  have hA : DataW.TrodAll enc Try.prog W 0 (fun _ => true) true Try.f5.params.toList args.toList ds p := hA0
  rw [Try.params5] at hA hval
  obtain ⟨v0, d0, rfl, rfl, h0⟩ := trodAll_one hA
  obtain ⟨rfl, rfl⟩ := trodVars_none hV
  have s0 : ∃ cs, v0 = .agg cs := by
    have := hval 0 27 v0 rfl rfl
    simp only [Value.okWide, Try.underlying27] at this
    obtain ⟨cs, h, _⟩ := this
    exact ⟨cs, h⟩
  have hlt : 27 < Try.prog.types.size := of_decide_eq_true (by kernel_rfl)
  obtain ⟨_, y0, r0, t0⟩ := arg_struct Try.rowsOk Try.underlying27 hlt s0 h0
  obtain ⟨j0, rfl, k0⟩ := Try.types.tyc_r t0
  refine (law_calls (k_laws_FnExactAbsoluteOf j0.neg j0.num j0.den k0.1 k0.2) (W := W) (cargs := #[v0]) ⟨rfl, fun j y hj => ?_⟩).mono fun e W' ⟨he, hb⟩ => ?_
  · match j, hj with
    | 0, hj => simp at hj; subst hj; exact r0
  · subst he
    exact ⟨_, rfl, post_below Try.laidOut (by rw [Try.params5]; intro t ht; simp at ht; subst ht; exact ⟨by kernel_rfl, hlt⟩) rfl hW' hb rfl rfl
      (fun _ _ _ => trodAll_mk1 (shut_bool Try.underlying4 true)) (ok_one (by kernel_rfl) rfl (okWide_bool_mk Try.underlying4 true))⟩

theorem FnExactAbsoluteOf_holds : Rows.FnExactAbsoluteOfSaid :=
  OpenClaim.holds_of_wide 5 Try.f5 rfl rfl rfl rfl rfl rfl rfl ⟨rfl, rfl, rfl, rfl, rfl⟩ rfl rfl rfl rfl rfl (by kernel_rfl) Try.func5 (by kernel_rfl)
    (of_decide_eq_true (by kernel_rfl)) (by unfold Func.isWrapper; first | (rw [if_pos (by decide +kernel)]; kernel_rfl) | (rw [if_neg (by decide +kernel)]; exact ⟨rfl, rfl⟩))
    (fun os started H enc _ => lifted os started H enc)

end Go.Proofs.Ytdghdngpeidmnaa
