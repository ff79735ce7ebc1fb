/-
  A part of the proof that the law FnExactAbsoluteOf holds for every input: walks through the functions. No conditions.
-/
import Derived.Test.YtdghdngpeidmnaaAb4
set_option linter.unusedVariables false
set_option linter.unusedSimpArgs false
/-! Walks: absolute values; the reference's test of a fraction. -/
namespace Go.Am
set_option linter.unusedVariables false
set_option linter.unusedSimpArgs false
set_option maxRecDepth 10000
set_option maxHeartbeats 4000000
def c_spec_BigIntOk (n_spec_NatOk : Nat) : AF := ⟨17, .seq (.ops [⟨(some 1), .box (.t 0), none, []⟩,
   ⟨(some 2), .mv (.c (.b false)), none, []⟩])
  (.seq (.ops [⟨(some 3), .fad 1 (.t 1), none, []⟩,
   ⟨(some 4), .ld none (.t 3), none, []⟩,
   ⟨(some 5), .call true n_spec_NatOk [(.t 4)], none, []⟩,
   ⟨(some 6), .mv (.t 5), none, []⟩,
   ⟨(some 7), .fad 0 (.t 1), some (6, true), []⟩,
   ⟨(some 8), .ld none (.t 7), some (6, true), []⟩,
   ⟨(some 9), .not (.t 8), some (6, true), []⟩,
   ⟨(some 10), .mv (.t 9), some (6, true), []⟩,
   ⟨(some 11), .fad 1 (.t 1), some (10, false), []⟩,
   ⟨(some 12), .ld none (.t 11), some (10, false), []⟩,
   ⟨(some 13), .len (.t 12), some (10, false), []⟩,
   ⟨(some 14), .bin .gtr (.t 13) (.c (.i .i64 0)), some (10, false), []⟩,
   ⟨(some 15), .pick (.t 10) (.c (.b true)) (.t 14), some (6, true), []⟩,
   ⟨(some 16), .pick (.t 6) (.t 15) (.c (.b false)), none, []⟩,
   ⟨(some 2), .mv (.t 16), none, []⟩])
  (.ret)), [.t 2]⟩
def K_spec_BigIntOk (P : Program) (f : Nat) : Prop := ∀ (b : Bool) (xs : List Int), xs.length < 9223372036854775808 → SC P f [.agg [.b b, ints xs]] (.b (bok b xs))
theorem t_spec_BigIntOk {P : Program} {f n_spec_NatOk : Nat} (h : Has P f (c_spec_BigIntOk n_spec_NatOk)) (k_spec_NatOk : K_spec_NatOk P n_spec_NatOk) : K_spec_BigIntOk P f := by
  intro b xs hx
  refine sc_go h (by simp) ?_
  by_cases h1 : NOk xs
  · simp -implicitDefEqProofs (disch := omega) only [↓walk, plain, List.length_map, List.getElem?_map, Option.map_some, Nat.reduceBEq, decT, decF, iteT, iteF, wrap_ok, Int.reduceToNat, Int.reduceLE, Int.reduceLT, Int.reduceAdd, Int.reduceSub, Int.reduceNeg, reduceIte, Nat.reduceEqDiff, Nat.reduceAdd, Nat.reduceSub, Nat.reduceMul, Nat.reduceLeDiff, Nat.reduceShiftRight, Nat.reduceMod, reduceCtorEq, ints]
    refine goCall_sc (k_spec_NatOk xs hx) (by repeat (first | exact vws_nil | refine vws_cons ?_ ?_ | exact vw_bb | exact vw_ii | exact vw_ss | exact vw_ints | exact vw_ints0 | exact vw_nn | exact vw_n0 | exact vw_bt | exact vw_qt | exact vw_bnat | exact vw_raw | exact vwl_nil | refine vwl_cons ?_ ?_ | refine vw_agg ?_ | refine vw_fn ?_ | assumption)) ?_
    by_cases h2 : xs.length = 0
    · have e0 : xs = [] := List.length_eq_zero_iff.1 h2
      cases b
      · simp -implicitDefEqProofs (disch := omega) only [↓walk, plain, List.length_map, List.getElem?_map, Option.map_some, Nat.reduceBEq, decT, decF, iteT, iteF, wrap_ok, Int.reduceToNat, Int.reduceLE, Int.reduceLT, Int.reduceAdd, Int.reduceSub, Int.reduceNeg, reduceIte, Nat.reduceEqDiff, Nat.reduceAdd, Nat.reduceSub, Nat.reduceMul, Nat.reduceLeDiff, Nat.reduceShiftRight, Nat.reduceMod, reduceCtorEq, nok_t h1, bb, h2]
        exact data_b (bok_t ⟨h1, fun e => by cases e⟩).symm
      · simp -implicitDefEqProofs (disch := omega) only [↓walk, plain, List.length_map, List.getElem?_map, Option.map_some, Nat.reduceBEq, decT, decF, iteT, iteF, wrap_ok, Int.reduceToNat, Int.reduceLE, Int.reduceLT, Int.reduceAdd, Int.reduceSub, Int.reduceNeg, reduceIte, Nat.reduceEqDiff, Nat.reduceAdd, Nat.reduceSub, Nat.reduceMul, Nat.reduceLeDiff, Nat.reduceShiftRight, Nat.reduceMod, reduceCtorEq, nok_t h1, bb, h2]
        exact data_b (bok_f (fun hh => hh.2 rfl e0)).symm
    · cases b
      · simp -implicitDefEqProofs (disch := omega) only [↓walk, plain, List.length_map, List.getElem?_map, Option.map_some, Nat.reduceBEq, decT, decF, iteT, iteF, wrap_ok, Int.reduceToNat, Int.reduceLE, Int.reduceLT, Int.reduceAdd, Int.reduceSub, Int.reduceNeg, reduceIte, Nat.reduceEqDiff, Nat.reduceAdd, Nat.reduceSub, Nat.reduceMul, Nat.reduceLeDiff, Nat.reduceShiftRight, Nat.reduceMod, reduceCtorEq, nok_t h1, bb]
        exact data_b (bok_t ⟨h1, fun _ e => h2 (by rw [e]; rfl)⟩).symm
      · simp -implicitDefEqProofs (disch := omega) only [↓walk, plain, List.length_map, List.getElem?_map, Option.map_some, Nat.reduceBEq, decT, decF, iteT, iteF, wrap_ok, Int.reduceToNat, Int.reduceLE, Int.reduceLT, Int.reduceAdd, Int.reduceSub, Int.reduceNeg, reduceIte, Nat.reduceEqDiff, Nat.reduceAdd, Nat.reduceSub, Nat.reduceMul, Nat.reduceLeDiff, Nat.reduceShiftRight, Nat.reduceMod, reduceCtorEq, nok_t h1, bb]
        exact data_b (bok_t ⟨h1, fun _ e => h2 (by rw [e]; rfl)⟩).symm
  · simp -implicitDefEqProofs (disch := omega) only [↓walk, plain, List.length_map, List.getElem?_map, Option.map_some, Nat.reduceBEq, decT, decF, iteT, iteF, wrap_ok, Int.reduceToNat, Int.reduceLE, Int.reduceLT, Int.reduceAdd, Int.reduceSub, Int.reduceNeg, reduceIte, Nat.reduceEqDiff, Nat.reduceAdd, Nat.reduceSub, Nat.reduceMul, Nat.reduceLeDiff, Nat.reduceShiftRight, Nat.reduceMod, reduceCtorEq, ints]
    refine goCall_sc (k_spec_NatOk xs hx) (by repeat (first | exact vws_nil | refine vws_cons ?_ ?_ | exact vw_bb | exact vw_ii | exact vw_ss | exact vw_ints | exact vw_ints0 | exact vw_nn | exact vw_n0 | exact vw_bt | exact vw_qt | exact vw_bnat | exact vw_raw | exact vwl_nil | refine vwl_cons ?_ ?_ | refine vw_agg ?_ | refine vw_fn ?_ | assumption)) ?_
    simp -implicitDefEqProofs (disch := omega) only [↓walk, plain, List.length_map, List.getElem?_map, Option.map_some, Nat.reduceBEq, decT, decF, iteT, iteF, wrap_ok, Int.reduceToNat, Int.reduceLE, Int.reduceLT, Int.reduceAdd, Int.reduceSub, Int.reduceNeg, reduceIte, Nat.reduceEqDiff, Nat.reduceAdd, Nat.reduceSub, Nat.reduceMul, Nat.reduceLeDiff, Nat.reduceShiftRight, Nat.reduceMod, reduceCtorEq, nok_f h1, bb]
    exact data_b (bok_f (fun hh => h1 hh.1)).symm
def c_spec_RatOk (n_spec_BigIntOk : Nat) (n_spec_NatOk : Nat) (n_spec_l02Gcd : Nat) (n_spec_l04One : Nat) : AF := ⟨39, .seq (.ops [⟨(some 1), .box (.t 0), none, []⟩,
   ⟨(some 2), .mv (.c (.b false)), none, []⟩])
  (.seq (.seq (.ops [⟨(some 3), .fad 0 (.t 1), none, []⟩,
   ⟨(some 4), .ld (some 2) (.t 3), none, []⟩,
   ⟨(some 5), .call true n_spec_BigIntOk [(.t 4)], none, []⟩,
   ⟨(some 6), .not (.t 5), none, []⟩,
   ⟨(some 7), .mv (.t 6), none, []⟩,
   ⟨(some 8), .fad 2 (.t 1), some (7, false), []⟩,
   ⟨(some 9), .ld none (.t 8), some (7, false), []⟩,
   ⟨(some 10), .call true n_spec_NatOk [(.t 9)], some (7, false), []⟩,
   ⟨(some 11), .not (.t 10), some (7, false), []⟩,
   ⟨(some 12), .pick (.t 7) (.c (.b true)) (.t 11), none, []⟩,
   ⟨(some 13), .mv (.t 12), none, []⟩,
   ⟨(some 14), .fad 2 (.t 1), some (13, false), []⟩,
   ⟨(some 15), .ld none (.t 14), some (13, false), []⟩,
   ⟨(some 16), .len (.t 15), some (13, false), []⟩,
   ⟨(some 17), .bin .eql (.t 16) (.c (.i .i64 0)), some (13, false), []⟩,
   ⟨(some 18), .pick (.t 13) (.c (.b true)) (.t 17), none, []⟩,
   ⟨(some 19), .mv (.t 18), none, []⟩,
   ⟨(some 20), .fad 2 (.t 1), some (19, false), []⟩,
   ⟨(some 21), .ld none (.t 20), some (19, false), []⟩,
   ⟨(some 22), .len (.t 21), some (19, false), []⟩,
   ⟨(some 23), .bin .gtr (.t 22) (.c (.i .i64 24)), some (19, false), []⟩,
   ⟨(some 24), .pick (.t 19) (.c (.b true)) (.t 23), none, []⟩,
   ⟨(some 25), .mv (.t 24), none, []⟩,
   ⟨(some 26), .fad 0 (.t 1), some (25, false), []⟩,
   ⟨(some 27), .fad 1 (.t 26), some (25, false), []⟩,
   ⟨(some 28), .ld none (.t 27), some (25, false), []⟩,
   ⟨(some 29), .len (.t 28), some (25, false), []⟩,
   ⟨(some 30), .bin .gtr (.t 29) (.c (.i .i64 24)), some (25, false), []⟩,
   ⟨(some 31), .pick (.t 25) (.c (.b true)) (.t 30), none, []⟩])
  (.cond (.t 31)
  (.seq (.ops [⟨(some 2), .mv (.c (.b false)), none, []⟩])
   (.ret))
  (.skip)))
  (.seq (.ops [⟨(some 32), .fad 0 (.t 1), none, []⟩,
   ⟨(some 33), .fad 1 (.t 32), none, []⟩,
   ⟨(some 34), .ld none (.t 33), none, []⟩,
   ⟨(some 35), .fad 2 (.t 1), none, []⟩,
   ⟨(some 36), .ld none (.t 35), none, []⟩,
   ⟨(some 37), .call true n_spec_l02Gcd [(.t 34), (.t 36)], none, []⟩,
   ⟨(some 38), .call true n_spec_l04One [(.t 37)], none, []⟩,
   ⟨(some 2), .mv (.t 38), none, []⟩])
  (.ret))), [.t 2]⟩
def K_spec_RatOk (P : Program) (f : Nat) : Prop := ∀ (b : Bool) (xs ys : List Int), xs.length < 9223372036854775808 → ys.length < 9223372036854775808 → SC P f [rawq b xs ys] (.b (rok b xs ys))
theorem t_spec_RatOk {P : Program} {f n_spec_BigIntOk n_spec_NatOk n_spec_l02Gcd n_spec_l04One : Nat} (h : Has P f (c_spec_RatOk n_spec_BigIntOk n_spec_NatOk n_spec_l02Gcd n_spec_l04One)) (k_spec_BigIntOk : K_spec_BigIntOk P n_spec_BigIntOk) (k_spec_NatOk : K_spec_NatOk P n_spec_NatOk) (k_spec_l02Gcd : K_spec_l02Gcd P n_spec_l02Gcd) (k_spec_l04One : K_spec_l04One P n_spec_l04One) : K_spec_RatOk P f := by
  intro b xs ys hx hy
  refine sc_go h (by simp) ?_
  simp -implicitDefEqProofs (disch := omega) only [↓walk, plain, List.length_map, List.getElem?_map, Option.map_some, Nat.reduceBEq, decT, decF, iteT, iteF, wrap_ok, Int.reduceToNat, Int.reduceLE, Int.reduceLT, Int.reduceAdd, Int.reduceSub, Int.reduceNeg, reduceIte, Nat.reduceEqDiff, Nat.reduceAdd, Nat.reduceSub, Nat.reduceMul, Nat.reduceLeDiff, Nat.reduceShiftRight, Nat.reduceMod, reduceCtorEq, rawq, ints]
  refine goCall_sc (k_spec_BigIntOk b xs hx) (by repeat (first | exact vws_nil | refine vws_cons ?_ ?_ | exact vw_bb | exact vw_ii | exact vw_ss | exact vw_ints | exact vw_ints0 | exact vw_nn | exact vw_n0 | exact vw_bt | exact vw_qt | exact vw_bnat | exact vw_raw | exact vwl_nil | refine vwl_cons ?_ ?_ | refine vw_agg ?_ | refine vw_fn ?_ | assumption)) ?_
  by_cases h1 : BOk b xs
  · simp -implicitDefEqProofs (disch := omega) only [↓walk, plain, List.length_map, List.getElem?_map, Option.map_some, Nat.reduceBEq, decT, decF, iteT, iteF, wrap_ok, Int.reduceToNat, Int.reduceLE, Int.reduceLT, Int.reduceAdd, Int.reduceSub, Int.reduceNeg, reduceIte, Nat.reduceEqDiff, Nat.reduceAdd, Nat.reduceSub, Nat.reduceMul, Nat.reduceLeDiff, Nat.reduceShiftRight, Nat.reduceMod, reduceCtorEq, bok_t h1, bb]
    refine goCall_sc (k_spec_NatOk ys hy) (by repeat (first | exact vws_nil | refine vws_cons ?_ ?_ | exact vw_bb | exact vw_ii | exact vw_ss | exact vw_ints | exact vw_ints0 | exact vw_nn | exact vw_n0 | exact vw_bt | exact vw_qt | exact vw_bnat | exact vw_raw | exact vwl_nil | refine vwl_cons ?_ ?_ | refine vw_agg ?_ | refine vw_fn ?_ | assumption)) ?_
    by_cases h2 : NOk ys
    · by_cases h3 : ys.length = 0
      · have e0 : ys = [] := List.length_eq_zero_iff.1 h3
        simp -implicitDefEqProofs (disch := omega) only [↓walk, plain, List.length_map, List.getElem?_map, Option.map_some, Nat.reduceBEq, decT, decF, iteT, iteF, wrap_ok, Int.reduceToNat, Int.reduceLE, Int.reduceLT, Int.reduceAdd, Int.reduceSub, Int.reduceNeg, reduceIte, Nat.reduceEqDiff, Nat.reduceAdd, Nat.reduceSub, Nat.reduceMul, Nat.reduceLeDiff, Nat.reduceShiftRight, Nat.reduceMod, reduceCtorEq, nok_t h2, bb, h3]
        exact data_b (rok_f (fun hh => hh.conv.2.2.1 e0)).symm
      · by_cases h5 : ys.length ≤ 24
        · by_cases h4 : xs.length ≤ 24
          · simp -implicitDefEqProofs (disch := omega) only [↓walk, plain, List.length_map, List.getElem?_map, Option.map_some, Nat.reduceBEq, decT, decF, iteT, iteF, wrap_ok, Int.reduceToNat, Int.reduceLE, Int.reduceLT, Int.reduceAdd, Int.reduceSub, Int.reduceNeg, reduceIte, Nat.reduceEqDiff, Nat.reduceAdd, Nat.reduceSub, Nat.reduceMul, Nat.reduceLeDiff, Nat.reduceShiftRight, Nat.reduceMod, reduceCtorEq, nok_t h2, bb]
            obtain ⟨m, em, lm⟩ := h1.1.eq
            obtain ⟨d, ed, ld⟩ := h2.eq
            subst em; subst ed
            have hd : d ≠ 0 := fun e => h3 (len0_iff.2 e)
            have l3 := limbs_len_mono (Nat.le_of_dvd (by omega) (Nat.gcd_dvd_right m d))
            refine goCall_fc (k_spec_l02Gcd m d (by omega) (by omega)) (by repeat (first | exact vws_nil | refine vws_cons ?_ ?_ | exact vw_bb | exact vw_ii | exact vw_ss | exact vw_ints | exact vw_ints0 | exact vw_nn | exact vw_n0 | exact vw_bt | exact vw_qt | exact vw_bnat | exact vw_raw | exact vwl_nil | refine vwl_cons ?_ ?_ | refine vw_agg ?_ | refine vw_fn ?_ | assumption)) ?_
            simp -implicitDefEqProofs (disch := omega) only [↓walk, plain, List.length_map, List.getElem?_map, Option.map_some, Nat.reduceBEq, decT, decF, iteT, iteF, wrap_ok, Int.reduceToNat, Int.reduceLE, Int.reduceLT, Int.reduceAdd, Int.reduceSub, Int.reduceNeg, reduceIte, Nat.reduceEqDiff, Nat.reduceAdd, Nat.reduceSub, Nat.reduceMul, Nat.reduceLeDiff, Nat.reduceShiftRight, Nat.reduceMod, reduceCtorEq]
            refine goCall_sc (k_spec_l04One (limbs (Nat.gcd m d)) (by omega)) (by repeat (first | exact vws_nil | refine vws_cons ?_ ?_ | exact vw_bb | exact vw_ii | exact vw_ss | exact vw_ints | exact vw_ints0 | exact vw_nn | exact vw_n0 | exact vw_bt | exact vw_qt | exact vw_bnat | exact vw_raw | exact vwl_nil | refine vwl_cons ?_ ?_ | refine vw_agg ?_ | refine vw_fn ?_ | assumption)) ?_
            by_cases h6 : Nat.gcd m d = 1
            · simp -implicitDefEqProofs (disch := omega) only [↓walk, plain, List.length_map, List.getElem?_map, Option.map_some, Nat.reduceBEq, decT, decF, iteT, iteF, wrap_ok, Int.reduceToNat, Int.reduceLE, Int.reduceLT, Int.reduceAdd, Int.reduceSub, Int.reduceNeg, reduceIte, Nat.reduceEqDiff, Nat.reduceAdd, Nat.reduceSub, Nat.reduceMul, Nat.reduceLeDiff, Nat.reduceShiftRight, Nat.reduceMod, reduceCtorEq, decide_eq_true (one_iff.2 h6)]
              exact data_b (rok_t (rok_of (fun hb hm => h1.2 hb (limbs_nil.2 hm)) hd h4 h5 (by rw [Nat.gcd_comm]; exact h6))).symm
            · simp -implicitDefEqProofs (disch := omega) only [↓walk, plain, List.length_map, List.getElem?_map, Option.map_some, Nat.reduceBEq, decT, decF, iteT, iteF, wrap_ok, Int.reduceToNat, Int.reduceLE, Int.reduceLT, Int.reduceAdd, Int.reduceSub, Int.reduceNeg, reduceIte, Nat.reduceEqDiff, Nat.reduceAdd, Nat.reduceSub, Nat.reduceMul, Nat.reduceLeDiff, Nat.reduceShiftRight, Nat.reduceMod, reduceCtorEq, decide_eq_false (fun e => h6 (one_iff.1 e) : ¬ limbs (Nat.gcd m d) = [1])]
              exact data_b (rok_f (fun hh => h6 (by rw [Nat.gcd_comm]; exact hh.conv.2.2.2.2.2 m d rfl rfl))).symm
          · simp -implicitDefEqProofs (disch := omega) only [↓walk, plain, List.length_map, List.getElem?_map, Option.map_some, Nat.reduceBEq, decT, decF, iteT, iteF, wrap_ok, Int.reduceToNat, Int.reduceLE, Int.reduceLT, Int.reduceAdd, Int.reduceSub, Int.reduceNeg, reduceIte, Nat.reduceEqDiff, Nat.reduceAdd, Nat.reduceSub, Nat.reduceMul, Nat.reduceLeDiff, Nat.reduceShiftRight, Nat.reduceMod, reduceCtorEq, nok_t h2, bb]
            exact data_b (rok_f (fun hh => h4 hh.conv.2.2.2.1)).symm
        · simp -implicitDefEqProofs (disch := omega) only [↓walk, plain, List.length_map, List.getElem?_map, Option.map_some, Nat.reduceBEq, decT, decF, iteT, iteF, wrap_ok, Int.reduceToNat, Int.reduceLE, Int.reduceLT, Int.reduceAdd, Int.reduceSub, Int.reduceNeg, reduceIte, Nat.reduceEqDiff, Nat.reduceAdd, Nat.reduceSub, Nat.reduceMul, Nat.reduceLeDiff, Nat.reduceShiftRight, Nat.reduceMod, reduceCtorEq, nok_t h2, bb]
          exact data_b (rok_f (fun hh => h5 hh.conv.2.2.2.2.1)).symm
    · simp -implicitDefEqProofs (disch := omega) only [↓walk, plain, List.length_map, List.getElem?_map, Option.map_some, Nat.reduceBEq, decT, decF, iteT, iteF, wrap_ok, Int.reduceToNat, Int.reduceLE, Int.reduceLT, Int.reduceAdd, Int.reduceSub, Int.reduceNeg, reduceIte, Nat.reduceEqDiff, Nat.reduceAdd, Nat.reduceSub, Nat.reduceMul, Nat.reduceLeDiff, Nat.reduceShiftRight, Nat.reduceMod, reduceCtorEq, nok_f h2, bb]
      exact data_b (rok_f (fun hh => h2 hh.conv.2.1)).symm
  · simp -implicitDefEqProofs (disch := omega) only [↓walk, plain, List.length_map, List.getElem?_map, Option.map_some, Nat.reduceBEq, decT, decF, iteT, iteF, wrap_ok, Int.reduceToNat, Int.reduceLE, Int.reduceLT, Int.reduceAdd, Int.reduceSub, Int.reduceNeg, reduceIte, Nat.reduceEqDiff, Nat.reduceAdd, Nat.reduceSub, Nat.reduceMul, Nat.reduceLeDiff, Nat.reduceShiftRight, Nat.reduceMod, reduceCtorEq, bok_f h1, bb]
    exact data_b (rok_f (fun hh => h1 hh.conv.1)).symm
def c_spec_l19Abs (n_spec_l03Make : Nat) : AF := ⟨12, .seq (.ops [⟨(some 1), .box (.t 0), none, []⟩,
   ⟨(some 2), .new (.agg [(.b false), .nl, .nl]), none, []⟩])
  (.seq (.opsd [(0, ⟨(some 3), .fad 0 (.t 1), none, []⟩),
   (1, ⟨(some 4), .fad 1 (.t 3), none, []⟩),
   (2, ⟨(some 5), .ld none (.t 4), none, []⟩),
   (5, ⟨(some 8), .fad 2 (.t 1), none, []⟩),
   (6, ⟨(some 9), .ld none (.t 8), none, []⟩),
   (3, ⟨(some 6), .call false n_spec_l03Make [(.c (.b false)), (.t 5)], none, []⟩),
   (4, ⟨(some 7), .bsl (.i .i64 0) 0 [], none, []⟩),
   (7, ⟨(some 10), .app 1 8 (.t 7) (.t 9), none, []⟩),
   (8, ⟨(some 11), .bld [(.b false), .nl, .nl] [(0, 2, (.t 6)), (2, 1, (.t 10))], none, []⟩),
   (9, ⟨none, .st (some 3) (.t 2) (.t 11), none, []⟩)])
  (.ret)), [.cell (some 3) 2]⟩
def K_spec_l19Abs (P : Program) (f : Nat) : Prop := ∀ p : FQ, QC P f [qv p] p.abs
theorem t_spec_l19Abs {P : Program} {f n_spec_l03Make : Nat} (h : Has P f (c_spec_l19Abs n_spec_l03Make)) (k_spec_l03Make : K_spec_l03Make P n_spec_l03Make) : K_spec_l19Abs P f := by
  intro p
  refine pc_go h (by simp) ?_
  rcases p.split with rfl | ⟨a, ha, rfl⟩
  · have ln : (limbs 0).length ≤ 60 := by rw [limbs_zero]; decide
    simp -implicitDefEqProofs (disch := omega) only [↓walk, plain, List.length_map, List.getElem?_map, Option.map_some, Nat.reduceBEq, decT, decF, iteT, iteF, wrap_ok, Int.reduceToNat, Int.reduceLE, Int.reduceLT, Int.reduceAdd, Int.reduceSub, Int.reduceNeg, reduceIte, Nat.reduceEqDiff, Nat.reduceAdd, Nat.reduceSub, Nat.reduceMul, Nat.reduceLeDiff, Nat.reduceShiftRight, Nat.reduceMod, reduceCtorEq, qv, qt, FQ.void_sg, FQ.void_nm, FQ.void_dn, List.map_nil]
    refine goCall_fc (k_spec_l03Make false [] 0 Dig.nil rfl (by simp) ln) (vws_cons vw_bb (vws_cons (.sl0 none none) vws_nil)) ?_
    simp -implicitDefEqProofs (disch := omega) only [↓walk, plain, List.length_map, List.getElem?_map, Option.map_some, Nat.reduceBEq, decT, decF, iteT, iteF, wrap_ok, Int.reduceToNat, Int.reduceLE, Int.reduceLT, Int.reduceAdd, Int.reduceSub, Int.reduceNeg, reduceIte, Nat.reduceEqDiff, Nat.reduceAdd, Nat.reduceSub, Nat.reduceMul, Nat.reduceLeDiff, Nat.reduceShiftRight, Nat.reduceMod, reduceCtorEq, limbs_zero, List.map_nil, List.isEmpty_nil, maxB, Bool.false_and]
    exact data_q (p := FQ.void.abs) (a := 12) (b := 6) rfl (fz_ints_sl (xs := []) (ys := []) rfl) (fz_ints_rf (xs := []) (by simp -implicitDefEqProofs (disch := omega) only [↓walk, plain, List.length_map, List.getElem?_map, Option.map_some, Nat.reduceBEq, decT, decF, iteT, iteF, wrap_ok, Int.reduceToNat, Int.reduceLE, Int.reduceLT, Int.reduceAdd, Int.reduceSub, Int.reduceNeg, reduceIte, Nat.reduceEqDiff, Nat.reduceAdd, Nat.reduceSub, Nat.reduceMul, Nat.reduceLeDiff, Nat.reduceShiftRight, Nat.reduceMod, reduceCtorEq]; rfl) rfl rfl) (by omega)
  · have ln := ha.1
    have ld := ha.2
    simp -implicitDefEqProofs (disch := omega) only [↓walk, plain, List.length_map, List.getElem?_map, Option.map_some, Nat.reduceBEq, decT, decF, iteT, iteF, wrap_ok, Int.reduceToNat, Int.reduceLE, Int.reduceLT, Int.reduceAdd, Int.reduceSub, Int.reduceNeg, reduceIte, Nat.reduceEqDiff, Nat.reduceAdd, Nat.reduceSub, Nat.reduceMul, Nat.reduceLeDiff, Nat.reduceShiftRight, Nat.reduceMod, reduceCtorEq, qv, qt, FQ.mk_sg, FQ.mk_nm, FQ.mk_dn]
    refine goCall_fc (k_spec_l03Make false (limbs a.num.natAbs) a.num.natAbs (limbs_dig _) (val_limbs _) (by omega) (by omega)) (by repeat (first | exact vws_nil | refine vws_cons ?_ ?_ | exact vw_bb | exact vw_ii | exact vw_ss | exact vw_ints | exact vw_ints0 | exact vw_nn | exact vw_n0 | exact vw_bt | exact vw_qt | exact vw_bnat | exact vw_raw | exact vwl_nil | refine vwl_cons ?_ ?_ | refine vw_agg ?_ | refine vw_fn ?_ | assumption)) ?_
    have e4 : ((limbs a.den).map (AV.i .i64)).isEmpty = false := by simp [limbs_nil, a.den_nz]
    simp -implicitDefEqProofs (disch := omega) only [↓walk, plain, List.length_map, List.getElem?_map, Option.map_some, Nat.reduceBEq, decT, decF, iteT, iteF, wrap_ok, Int.reduceToNat, Int.reduceLE, Int.reduceLT, Int.reduceAdd, Int.reduceSub, Int.reduceNeg, reduceIte, Nat.reduceEqDiff, Nat.reduceAdd, Nat.reduceSub, Nat.reduceMul, Nat.reduceLeDiff, Nat.reduceShiftRight, Nat.reduceMod, reduceCtorEq, e4, e2i, maxB, Bool.false_and]
    refine data_q (p := (FQ.of a ha).abs) (a := 12) (b := 9) (by rw [FQ.abs_sg]) ?_ ?_ (by omega)
    · rw [FQ.abs_nm]; exact fz_ints_sl rfl
    · rw [FQ.abs_dn]; exact fz_ints_rf (xs := limbs a.den) (by simp -implicitDefEqProofs (disch := omega) only [↓walk, plain, List.length_map, List.getElem?_map, Option.map_some, Nat.reduceBEq, decT, decF, iteT, iteF, wrap_ok, Int.reduceToNat, Int.reduceLE, Int.reduceLT, Int.reduceAdd, Int.reduceSub, Int.reduceNeg, reduceIte, Nat.reduceEqDiff, Nat.reduceAdd, Nat.reduceSub, Nat.reduceMul, Nat.reduceLeDiff, Nat.reduceShiftRight, Nat.reduceMod, reduceCtorEq]; rfl) rfl (by rw [List.take_of_length_le (by simp)])
def c_spec_AbsoluteOf (n_spec_RatOk : Nat) (n_spec_l19Abs : Nat) : AF := ⟨9, .seq (.ops [⟨(some 1), .box (.t 0), none, []⟩,
   ⟨(some 2), .new (.agg [(.b false), .nl, .nl]), none, []⟩])
  (.seq (.seq (.ops [⟨(some 3), .ld (some 3) (.t 1), none, []⟩,
   ⟨(some 4), .call true n_spec_RatOk [(.t 3)], none, []⟩,
   ⟨(some 5), .not (.t 4), none, []⟩])
  (.cond (.t 5)
  (.seq (.ops [⟨(some 6), .bld [(.b false), .nl, .nl] [], none, []⟩,
    ⟨none, .st (some 3) (.t 2) (.t 6), none, []⟩])
   (.ret))
  (.skip)))
  (.seq (.ops [⟨(some 7), .ld (some 3) (.t 1), none, []⟩,
   ⟨(some 8), .call true n_spec_l19Abs [(.t 7)], none, []⟩,
   ⟨none, .st (some 3) (.t 2) (.t 8), none, []⟩])
  (.ret))), [.cell (some 3) 2]⟩
def K_spec_AbsoluteOf (P : Program) (f : Nat) : Prop := ∀ (b : Bool) (xs ys : List Int), xs.length < 9223372036854775808 → ys.length < 9223372036854775808 → QC P f [rawq b xs ys] (fq b xs ys).abs
theorem t_spec_AbsoluteOf {P : Program} {f n_spec_RatOk n_spec_l19Abs : Nat} (h : Has P f (c_spec_AbsoluteOf n_spec_RatOk n_spec_l19Abs)) (k_spec_RatOk : K_spec_RatOk P n_spec_RatOk) (k_spec_l19Abs : K_spec_l19Abs P n_spec_l19Abs) : K_spec_AbsoluteOf P f := by
  intro b xs ys hx hy
  refine pc_go h (by simp) ?_
  by_cases hr : ROk b xs ys
  · obtain ⟨q, hq, e1, e2, -⟩ := fq_ok hr
    simp -implicitDefEqProofs (disch := omega) only [↓walk, plain, List.length_map, List.getElem?_map, Option.map_some, Nat.reduceBEq, decT, decF, iteT, iteF, wrap_ok, Int.reduceToNat, Int.reduceLE, Int.reduceLT, Int.reduceAdd, Int.reduceSub, Int.reduceNeg, reduceIte, Nat.reduceEqDiff, Nat.reduceAdd, Nat.reduceSub, Nat.reduceMul, Nat.reduceLeDiff, Nat.reduceShiftRight, Nat.reduceMod, reduceCtorEq, rawq, ints]
    refine goCall_sc (k_spec_RatOk b xs ys hx hy) (by repeat (first | exact vws_nil | refine vws_cons ?_ ?_ | exact vw_bb | exact vw_ii | exact vw_ss | exact vw_ints | exact vw_ints0 | exact vw_nn | exact vw_n0 | exact vw_bt | exact vw_qt | exact vw_bnat | exact vw_raw | exact vwl_nil | refine vwl_cons ?_ ?_ | refine vw_agg ?_ | refine vw_fn ?_ | assumption)) ?_
    simp -implicitDefEqProofs (disch := omega) only [↓walk, plain, List.length_map, List.getElem?_map, Option.map_some, Nat.reduceBEq, decT, decF, iteT, iteF, wrap_ok, Int.reduceToNat, Int.reduceLE, Int.reduceLT, Int.reduceAdd, Int.reduceSub, Int.reduceNeg, reduceIte, Nat.reduceEqDiff, Nat.reduceAdd, Nat.reduceSub, Nat.reduceMul, Nat.reduceLeDiff, Nat.reduceShiftRight, Nat.reduceMod, reduceCtorEq, rok_t hr, bb]
    refine goCall_qc (k_spec_l19Abs (fq b xs ys)) (vws_cons (by rw [e1, ← e2]; exact vw_raw) vws_nil) ?_
    simp -implicitDefEqProofs (disch := omega) only [↓walk, plain, List.length_map, List.getElem?_map, Option.map_some, Nat.reduceBEq, decT, decF, iteT, iteF, wrap_ok, Int.reduceToNat, Int.reduceLE, Int.reduceLT, Int.reduceAdd, Int.reduceSub, Int.reduceNeg, reduceIte, Nat.reduceEqDiff, Nat.reduceAdd, Nat.reduceSub, Nat.reduceMul, Nat.reduceLeDiff, Nat.reduceShiftRight, Nat.reduceMod, reduceCtorEq, qt]
    exact data_qt rfl (by omega)
  · simp -implicitDefEqProofs (disch := omega) only [↓walk, plain, List.length_map, List.getElem?_map, Option.map_some, Nat.reduceBEq, decT, decF, iteT, iteF, wrap_ok, Int.reduceToNat, Int.reduceLE, Int.reduceLT, Int.reduceAdd, Int.reduceSub, Int.reduceNeg, reduceIte, Nat.reduceEqDiff, Nat.reduceAdd, Nat.reduceSub, Nat.reduceMul, Nat.reduceLeDiff, Nat.reduceShiftRight, Nat.reduceMod, reduceCtorEq, rawq, ints]
    refine goCall_sc (k_spec_RatOk b xs ys hx hy) (by repeat (first | exact vws_nil | refine vws_cons ?_ ?_ | exact vw_bb | exact vw_ii | exact vw_ss | exact vw_ints | exact vw_ints0 | exact vw_nn | exact vw_n0 | exact vw_bt | exact vw_qt | exact vw_bnat | exact vw_raw | exact vwl_nil | refine vwl_cons ?_ ?_ | refine vw_agg ?_ | refine vw_fn ?_ | assumption)) ?_
    simp -implicitDefEqProofs (disch := omega) only [↓walk, plain, List.length_map, List.getElem?_map, Option.map_some, Nat.reduceBEq, decT, decF, iteT, iteF, wrap_ok, Int.reduceToNat, Int.reduceLE, Int.reduceLT, Int.reduceAdd, Int.reduceSub, Int.reduceNeg, reduceIte, Nat.reduceEqDiff, Nat.reduceAdd, Nat.reduceSub, Nat.reduceMul, Nat.reduceLeDiff, Nat.reduceShiftRight, Nat.reduceMod, reduceCtorEq, rok_f hr, bb]
    rw [fq_no hr]
    exact data_q0
def c_impl_AbsoluteOf (n_impl_RatOk : Nat) (n_impl_neg : Nat) (n_impl_copyRat : Nat) : AF := ⟨14, .seq (.ops [⟨(some 1), .box (.t 0), none, []⟩,
   ⟨(some 2), .new (.agg [(.b false), .nl, .nl]), none, []⟩])
  (.seq (.seq (.ops [⟨(some 3), .ld (some 3) (.t 1), none, []⟩,
   ⟨(some 4), .call true n_impl_RatOk [(.t 3)], none, []⟩,
   ⟨(some 5), .not (.t 4), none, []⟩])
  (.cond (.t 5)
  (.seq (.ops [⟨(some 6), .bld [(.b false), .nl, .nl] [], none, []⟩,
    ⟨none, .st (some 3) (.t 2) (.t 6), none, []⟩])
   (.ret))
  (.skip)))
  (.seq (.seq (.ops [⟨(some 7), .fad 0 (.t 1), none, []⟩,
   ⟨(some 8), .fad 0 (.t 7), none, []⟩,
   ⟨(some 9), .ld none (.t 8), none, []⟩])
  (.cond (.t 9)
  (.seq (.ops [⟨(some 10), .ld (some 3) (.t 1), none, []⟩,
    ⟨(some 11), .call true n_impl_neg [(.t 10)], none, []⟩,
    ⟨none, .st (some 3) (.t 2) (.t 11), none, []⟩])
   (.ret))
  (.skip)))
  (.seq (.ops [⟨(some 12), .ld (some 3) (.t 1), none, []⟩,
   ⟨(some 13), .call true n_impl_copyRat [(.t 12)], none, []⟩,
   ⟨none, .st (some 3) (.t 2) (.t 13), none, []⟩])
  (.ret)))), [.cell (some 3) 2]⟩
def K_impl_AbsoluteOf (P : Program) (f : Nat) : Prop := ∀ (b : Bool) (xs ys : List Int), xs.length < 9223372036854775808 → ys.length < 9223372036854775808 → QC P f [rawq b xs ys] (fq b xs ys).abs
theorem t_impl_AbsoluteOf {P : Program} {f n_impl_RatOk n_impl_neg n_impl_copyRat : Nat} (h : Has P f (c_impl_AbsoluteOf n_impl_RatOk n_impl_neg n_impl_copyRat)) (k_impl_RatOk : K_impl_RatOk P n_impl_RatOk) (k_impl_neg : K_impl_neg P n_impl_neg) (k_impl_copyRat : K_impl_copyRat P n_impl_copyRat) : K_impl_AbsoluteOf P f := by
  intro b xs ys hx hy
  refine pc_go h (by simp) ?_
  by_cases hr : ROk b xs ys
  · obtain ⟨q, hq, e1, e2, e3, e4, e5⟩ := fq_ok hr
    rw [FQ.abs, show (fq b xs ys).sg = b by rw [e1, e3]; rfl]
    cases b
    · simp -implicitDefEqProofs (disch := omega) only [↓walk, plain, List.length_map, List.getElem?_map, Option.map_some, Nat.reduceBEq, decT, decF, iteT, iteF, wrap_ok, Int.reduceToNat, Int.reduceLE, Int.reduceLT, Int.reduceAdd, Int.reduceSub, Int.reduceNeg, reduceIte, Nat.reduceEqDiff, Nat.reduceAdd, Nat.reduceSub, Nat.reduceMul, Nat.reduceLeDiff, Nat.reduceShiftRight, Nat.reduceMod, reduceCtorEq, rawq, ints]
      refine goCall_sc (k_impl_RatOk false xs ys hx hy) (by repeat (first | exact vws_nil | refine vws_cons ?_ ?_ | exact vw_bb | exact vw_ii | exact vw_ss | exact vw_ints | exact vw_ints0 | exact vw_nn | exact vw_n0 | exact vw_bt | exact vw_qt | exact vw_bnat | exact vw_raw | exact vwl_nil | refine vwl_cons ?_ ?_ | refine vw_agg ?_ | refine vw_fn ?_ | assumption)) ?_
      simp -implicitDefEqProofs (disch := omega) only [↓walk, plain, List.length_map, List.getElem?_map, Option.map_some, Nat.reduceBEq, decT, decF, iteT, iteF, wrap_ok, Int.reduceToNat, Int.reduceLE, Int.reduceLT, Int.reduceAdd, Int.reduceSub, Int.reduceNeg, reduceIte, Nat.reduceEqDiff, Nat.reduceAdd, Nat.reduceSub, Nat.reduceMul, Nat.reduceLeDiff, Nat.reduceShiftRight, Nat.reduceMod, reduceCtorEq, rok_t hr, bb]
      refine goCall_qc (k_impl_copyRat (fq false xs ys)) (vws_cons (by rw [e1, ← e2]; exact vw_raw) vws_nil) ?_
      simp -implicitDefEqProofs (disch := omega) only [↓walk, plain, List.length_map, List.getElem?_map, Option.map_some, Nat.reduceBEq, decT, decF, iteT, iteF, wrap_ok, Int.reduceToNat, Int.reduceLE, Int.reduceLT, Int.reduceAdd, Int.reduceSub, Int.reduceNeg, reduceIte, Nat.reduceEqDiff, Nat.reduceAdd, Nat.reduceSub, Nat.reduceMul, Nat.reduceLeDiff, Nat.reduceShiftRight, Nat.reduceMod, reduceCtorEq, qt]
      exact data_qt rfl (by omega)
    · simp -implicitDefEqProofs (disch := omega) only [↓walk, plain, List.length_map, List.getElem?_map, Option.map_some, Nat.reduceBEq, decT, decF, iteT, iteF, wrap_ok, Int.reduceToNat, Int.reduceLE, Int.reduceLT, Int.reduceAdd, Int.reduceSub, Int.reduceNeg, reduceIte, Nat.reduceEqDiff, Nat.reduceAdd, Nat.reduceSub, Nat.reduceMul, Nat.reduceLeDiff, Nat.reduceShiftRight, Nat.reduceMod, reduceCtorEq, rawq, ints]
      refine goCall_sc (k_impl_RatOk true xs ys hx hy) (by repeat (first | exact vws_nil | refine vws_cons ?_ ?_ | exact vw_bb | exact vw_ii | exact vw_ss | exact vw_ints | exact vw_ints0 | exact vw_nn | exact vw_n0 | exact vw_bt | exact vw_qt | exact vw_bnat | exact vw_raw | exact vwl_nil | refine vwl_cons ?_ ?_ | refine vw_agg ?_ | refine vw_fn ?_ | assumption)) ?_
      simp -implicitDefEqProofs (disch := omega) only [↓walk, plain, List.length_map, List.getElem?_map, Option.map_some, Nat.reduceBEq, decT, decF, iteT, iteF, wrap_ok, Int.reduceToNat, Int.reduceLE, Int.reduceLT, Int.reduceAdd, Int.reduceSub, Int.reduceNeg, reduceIte, Nat.reduceEqDiff, Nat.reduceAdd, Nat.reduceSub, Nat.reduceMul, Nat.reduceLeDiff, Nat.reduceShiftRight, Nat.reduceMod, reduceCtorEq, rok_t hr, bb]
      refine goCall_qc (k_impl_neg (fq true xs ys)) (vws_cons (by rw [e1, ← e2]; exact vw_raw) vws_nil) ?_
      simp -implicitDefEqProofs (disch := omega) only [↓walk, plain, List.length_map, List.getElem?_map, Option.map_some, Nat.reduceBEq, decT, decF, iteT, iteF, wrap_ok, Int.reduceToNat, Int.reduceLE, Int.reduceLT, Int.reduceAdd, Int.reduceSub, Int.reduceNeg, reduceIte, Nat.reduceEqDiff, Nat.reduceAdd, Nat.reduceSub, Nat.reduceMul, Nat.reduceLeDiff, Nat.reduceShiftRight, Nat.reduceMod, reduceCtorEq, qt]
      exact data_qt rfl (by omega)
  · simp -implicitDefEqProofs (disch := omega) only [↓walk, plain, List.length_map, List.getElem?_map, Option.map_some, Nat.reduceBEq, decT, decF, iteT, iteF, wrap_ok, Int.reduceToNat, Int.reduceLE, Int.reduceLT, Int.reduceAdd, Int.reduceSub, Int.reduceNeg, reduceIte, Nat.reduceEqDiff, Nat.reduceAdd, Nat.reduceSub, Nat.reduceMul, Nat.reduceLeDiff, Nat.reduceShiftRight, Nat.reduceMod, reduceCtorEq, rawq, ints]
    refine goCall_sc (k_impl_RatOk b xs ys hx hy) (by repeat (first | exact vws_nil | refine vws_cons ?_ ?_ | exact vw_bb | exact vw_ii | exact vw_ss | exact vw_ints | exact vw_ints0 | exact vw_nn | exact vw_n0 | exact vw_bt | exact vw_qt | exact vw_bnat | exact vw_raw | exact vwl_nil | refine vwl_cons ?_ ?_ | refine vw_agg ?_ | refine vw_fn ?_ | assumption)) ?_
    simp -implicitDefEqProofs (disch := omega) only [↓walk, plain, List.length_map, List.getElem?_map, Option.map_some, Nat.reduceBEq, decT, decF, iteT, iteF, wrap_ok, Int.reduceToNat, Int.reduceLE, Int.reduceLT, Int.reduceAdd, Int.reduceSub, Int.reduceNeg, reduceIte, Nat.reduceEqDiff, Nat.reduceAdd, Nat.reduceSub, Nat.reduceMul, Nat.reduceLeDiff, Nat.reduceShiftRight, Nat.reduceMod, reduceCtorEq, rok_f hr, bb]
    rw [fq_no hr]
    exact data_q0
end Go.Am
/-! Walks of the laws' own functions: whole numbers and fractions. -/
namespace Go.Am
set_option linter.unusedVariables false
set_option linter.unusedSimpArgs false
set_option maxRecDepth 10000
set_option maxHeartbeats 4000000
/-- What is left of a budget. -/
def szI (xs : List Int) (t : Int) : Int := if t - xs.length < 0 then -1 else t - xs.length
def szQ (xs ys : List Int) (t : Int) : Int := if szI xs t < 0 then -1 else szI ys (szI xs t)
theorem szI_neg {xs : List Int} {t : Int} (h : szI xs t < 0) : szI xs t = -1 := by
  unfold szI at *; split at h <;> rename_i h1
  · rw [if_pos h1]
  · omega
theorem szI_le {xs : List Int} {t : Int} (h : ¬ szI xs t < 0) : szI xs t = t - xs.length ∧ (xs.length : Int) ≤ t := by
  unfold szI at *; split at h
  · omega
  · rename_i h1; rw [if_neg h1]; omega
theorem szQ_le {xs ys : List Int} {t : Int} (h : ¬ szQ xs ys t < 0) : szQ xs ys t = t - xs.length - ys.length ∧ (xs.length : Int) + ys.length ≤ t := by
  unfold szQ at *; split at h
  · omega
  · rename_i h1
    rw [if_neg h1]
    have h2 := szI_le h1
    have h3 := szI_le h
    omega
/-- Fields with tags. -/
def rawt (u w : Option Nat) (b : Bool) (xs ys : List Int) : AV := .agg [.b b, .sl u (xs.map (.i .i64)), .sl w (ys.map (.i .i64))]
def rawtf (b : Bool) (xs ys : List Int) (n : Nat) : AV := rawt (some n) (some (n + 1)) b xs ys
/-- Numbers from k on. -/
def upFrom (k : Int) (m : Nat) : List Int := (List.range m).map fun j : Nat => k + (j : Int)
theorem upFrom_len {k : Int} {m : Nat} : (upFrom k m).length = m := by simp [upFrom]
theorem upFrom_get {k : Int} {m i : Nat} (h : i < m) : (upFrom k m)[i]? = some (k + i) := by simp [upFrom, h]
def c_laws_szIntS : AF := ⟨12, .seq (.ops [⟨(some 4), .mv (.c (.i .i64 0)), none, []⟩])
  (.seq (.ops [⟨(some 5), .mv (.t 1), none, []⟩,
   ⟨(some 6), .mv (.t 0), none, []⟩,
   ⟨(some 7), .len (.t 6), none, []⟩,
   ⟨(some 8), .bin .sub (.t 5) (.t 7), none, []⟩,
   ⟨(some 1), .mv (.t 8), none, []⟩])
  (.seq (.seq (.ops [⟨(some 9), .mv (.t 1), none, []⟩,
   ⟨(some 10), .bin .lss (.t 9) (.c (.i .i64 0)), none, []⟩])
  (.cond (.t 10)
  (.seq (.ops [⟨(some 4), .mv (.c (.i .i64 (-1))), none, []⟩])
   (.ret))
  (.skip)))
  (.seq (.ops [⟨(some 11), .mv (.t 1), none, []⟩,
   ⟨(some 4), .mv (.t 11), none, []⟩])
  (.ret)))), [.t 4]⟩
def K_laws_szIntS (P : Program) (f : Nat) : Prop := ∀ (xs : List Int) (t : Int), xs.length < 9223372036854775808 → 0 ≤ t → t < 9223372036854775808 → SC P f [ints xs, .i .i64 t] (.i .i64 (szI xs t))
theorem t_laws_szIntS {P : Program} {f : Nat} (h : Has P f c_laws_szIntS) : K_laws_szIntS P f := by
  intro xs t hx h0 h1
  refine sc_go h (by simp) ?_
  by_cases hh : t - xs.length < 0
  · simp -implicitDefEqProofs (disch := omega) only [↓walk, plain, List.length_map, List.getElem?_map, Option.map_some, Nat.reduceBEq, decT, decF, iteT, iteF, wrap_ok, Int.reduceToNat, Int.reduceLE, Int.reduceLT, Int.reduceAdd, Int.reduceSub, Int.reduceNeg, reduceIte, Nat.reduceEqDiff, Nat.reduceAdd, Nat.reduceSub, Nat.reduceMul, Nat.reduceLeDiff, Nat.reduceShiftRight, Nat.reduceMod, reduceCtorEq, ints]
    exact data_i (by unfold szI; rw [if_pos hh])
  · simp -implicitDefEqProofs (disch := omega) only [↓walk, plain, List.length_map, List.getElem?_map, Option.map_some, Nat.reduceBEq, decT, decF, iteT, iteF, wrap_ok, Int.reduceToNat, Int.reduceLE, Int.reduceLT, Int.reduceAdd, Int.reduceSub, Int.reduceNeg, reduceIte, Nat.reduceEqDiff, Nat.reduceAdd, Nat.reduceSub, Nat.reduceMul, Nat.reduceLeDiff, Nat.reduceShiftRight, Nat.reduceMod, reduceCtorEq, ints]
    exact data_i (by unfold szI; rw [if_neg hh])
def c_laws_szBigInt (n_laws_szIntS : Nat) : AF := ⟨12, .seq (.ops [⟨(some 2), .box (.t 0), none, []⟩,
   ⟨(some 4), .mv (.c (.i .i64 0)), none, []⟩])
  (.seq (.ops [⟨(some 5), .fad 1 (.t 2), none, []⟩,
   ⟨(some 6), .ld none (.t 5), none, []⟩,
   ⟨(some 7), .mv (.t 1), none, []⟩,
   ⟨(some 8), .call true n_laws_szIntS [(.t 6), (.t 7)], none, []⟩,
   ⟨(some 1), .mv (.t 8), none, []⟩])
  (.seq (.seq (.ops [⟨(some 9), .mv (.t 1), none, []⟩,
   ⟨(some 10), .bin .lss (.t 9) (.c (.i .i64 0)), none, []⟩])
  (.cond (.t 10)
  (.seq (.ops [⟨(some 4), .mv (.c (.i .i64 (-1))), none, []⟩])
   (.ret))
  (.skip)))
  (.seq (.ops [⟨(some 11), .mv (.t 1), none, []⟩,
   ⟨(some 4), .mv (.t 11), none, []⟩])
  (.ret)))), [.t 4]⟩
def K_laws_szBigInt (P : Program) (f : Nat) : Prop := ∀ (b : Bool) (xs : List Int) (t : Int), xs.length < 9223372036854775808 → 0 ≤ t → t < 9223372036854775808 → SC P f [.agg [.b b, ints xs], .i .i64 t] (.i .i64 (szI xs t))
theorem t_laws_szBigInt {P : Program} {f n_laws_szIntS : Nat} (h : Has P f (c_laws_szBigInt n_laws_szIntS)) (k_laws_szIntS : K_laws_szIntS P n_laws_szIntS) : K_laws_szBigInt P f := by
  intro b xs t hx h0 h1
  refine sc_go h (by simp) ?_
  simp -implicitDefEqProofs (disch := omega) only [↓walk, plain, List.length_map, List.getElem?_map, Option.map_some, Nat.reduceBEq, decT, decF, iteT, iteF, wrap_ok, Int.reduceToNat, Int.reduceLE, Int.reduceLT, Int.reduceAdd, Int.reduceSub, Int.reduceNeg, reduceIte, Nat.reduceEqDiff, Nat.reduceAdd, Nat.reduceSub, Nat.reduceMul, Nat.reduceLeDiff, Nat.reduceShiftRight, Nat.reduceMod, reduceCtorEq, ints]
  refine goCall_sc (k_laws_szIntS xs t hx h0 h1) (by repeat (first | exact vws_nil | refine vws_cons ?_ ?_ | exact vw_bb | exact vw_ii | exact vw_ss | exact vw_ints | exact vw_ints0 | exact vw_nn | exact vw_n0 | exact vw_bt | exact vw_qt | exact vw_bnat | exact vw_raw | exact vwl_nil | refine vwl_cons ?_ ?_ | refine vw_agg ?_ | refine vw_fn ?_ | assumption)) ?_
  by_cases hh : szI xs t < 0
  · simp -implicitDefEqProofs (disch := omega) only [↓walk, plain, List.length_map, List.getElem?_map, Option.map_some, Nat.reduceBEq, decT, decF, iteT, iteF, wrap_ok, Int.reduceToNat, Int.reduceLE, Int.reduceLT, Int.reduceAdd, Int.reduceSub, Int.reduceNeg, reduceIte, Nat.reduceEqDiff, Nat.reduceAdd, Nat.reduceSub, Nat.reduceMul, Nat.reduceLeDiff, Nat.reduceShiftRight, Nat.reduceMod, reduceCtorEq]
    exact data_i (szI_neg hh).symm
  · simp -implicitDefEqProofs (disch := omega) only [↓walk, plain, List.length_map, List.getElem?_map, Option.map_some, Nat.reduceBEq, decT, decF, iteT, iteF, wrap_ok, Int.reduceToNat, Int.reduceLE, Int.reduceLT, Int.reduceAdd, Int.reduceSub, Int.reduceNeg, reduceIte, Nat.reduceEqDiff, Nat.reduceAdd, Nat.reduceSub, Nat.reduceMul, Nat.reduceLeDiff, Nat.reduceShiftRight, Nat.reduceMod, reduceCtorEq]
    exact data_i rfl
def c_laws_szRat (n_laws_szBigInt : Nat) (n_laws_szIntS : Nat) : AF := ⟨18, .seq (.ops [⟨(some 2), .box (.t 0), none, []⟩,
   ⟨(some 4), .mv (.c (.i .i64 0)), none, []⟩])
  (.seq (.ops [⟨(some 5), .fad 0 (.t 2), none, []⟩,
   ⟨(some 6), .ld (some 2) (.t 5), none, []⟩,
   ⟨(some 7), .mv (.t 1), none, []⟩,
   ⟨(some 8), .call true n_laws_szBigInt [(.t 6), (.t 7)], none, []⟩,
   ⟨(some 1), .mv (.t 8), none, []⟩])
  (.seq (.seq (.ops [⟨(some 9), .mv (.t 1), none, []⟩,
   ⟨(some 10), .bin .lss (.t 9) (.c (.i .i64 0)), none, []⟩])
  (.cond (.t 10)
  (.seq (.ops [⟨(some 4), .mv (.c (.i .i64 (-1))), none, []⟩])
   (.ret))
  (.skip)))
  (.seq (.ops [⟨(some 11), .fad 2 (.t 2), none, []⟩,
   ⟨(some 12), .ld none (.t 11), none, []⟩,
   ⟨(some 13), .mv (.t 1), none, []⟩,
   ⟨(some 14), .call true n_laws_szIntS [(.t 12), (.t 13)], none, []⟩,
   ⟨(some 1), .mv (.t 14), none, []⟩])
  (.seq (.seq (.ops [⟨(some 15), .mv (.t 1), none, []⟩,
   ⟨(some 16), .bin .lss (.t 15) (.c (.i .i64 0)), none, []⟩])
  (.cond (.t 16)
  (.seq (.ops [⟨(some 4), .mv (.c (.i .i64 (-1))), none, []⟩])
   (.ret))
  (.skip)))
  (.seq (.ops [⟨(some 17), .mv (.t 1), none, []⟩,
   ⟨(some 4), .mv (.t 17), none, []⟩])
  (.ret)))))), [.t 4]⟩
def K_laws_szRat (P : Program) (f : Nat) : Prop := ∀ (b : Bool) (xs ys : List Int) (t : Int), xs.length < 9223372036854775808 → ys.length < 9223372036854775808 → 0 ≤ t → t < 9223372036854775808 → SC P f [rawq b xs ys, .i .i64 t] (.i .i64 (szQ xs ys t))
theorem t_laws_szRat {P : Program} {f n_laws_szBigInt n_laws_szIntS : Nat} (h : Has P f (c_laws_szRat n_laws_szBigInt n_laws_szIntS)) (k_laws_szBigInt : K_laws_szBigInt P n_laws_szBigInt) (k_laws_szIntS : K_laws_szIntS P n_laws_szIntS) : K_laws_szRat P f := by
  intro b xs ys t hx hy h0 h1
  refine sc_go h (by simp) ?_
  simp -implicitDefEqProofs (disch := omega) only [↓walk, plain, List.length_map, List.getElem?_map, Option.map_some, Nat.reduceBEq, decT, decF, iteT, iteF, wrap_ok, Int.reduceToNat, Int.reduceLE, Int.reduceLT, Int.reduceAdd, Int.reduceSub, Int.reduceNeg, reduceIte, Nat.reduceEqDiff, Nat.reduceAdd, Nat.reduceSub, Nat.reduceMul, Nat.reduceLeDiff, Nat.reduceShiftRight, Nat.reduceMod, reduceCtorEq, rawq, ints]
  refine goCall_sc (k_laws_szBigInt b xs t hx h0 h1) (by repeat (first | exact vws_nil | refine vws_cons ?_ ?_ | exact vw_bb | exact vw_ii | exact vw_ss | exact vw_ints | exact vw_ints0 | exact vw_nn | exact vw_n0 | exact vw_bt | exact vw_qt | exact vw_bnat | exact vw_raw | exact vwl_nil | refine vwl_cons ?_ ?_ | refine vw_agg ?_ | refine vw_fn ?_ | assumption)) ?_
  by_cases hh : szI xs t < 0
  · simp -implicitDefEqProofs (disch := omega) only [↓walk, plain, List.length_map, List.getElem?_map, Option.map_some, Nat.reduceBEq, decT, decF, iteT, iteF, wrap_ok, Int.reduceToNat, Int.reduceLE, Int.reduceLT, Int.reduceAdd, Int.reduceSub, Int.reduceNeg, reduceIte, Nat.reduceEqDiff, Nat.reduceAdd, Nat.reduceSub, Nat.reduceMul, Nat.reduceLeDiff, Nat.reduceShiftRight, Nat.reduceMod, reduceCtorEq]
    exact data_i (by unfold szQ; rw [if_pos hh])
  · simp -implicitDefEqProofs (disch := omega) only [↓walk, plain, List.length_map, List.getElem?_map, Option.map_some, Nat.reduceBEq, decT, decF, iteT, iteF, wrap_ok, Int.reduceToNat, Int.reduceLE, Int.reduceLT, Int.reduceAdd, Int.reduceSub, Int.reduceNeg, reduceIte, Nat.reduceEqDiff, Nat.reduceAdd, Nat.reduceSub, Nat.reduceMul, Nat.reduceLeDiff, Nat.reduceShiftRight, Nat.reduceMod, reduceCtorEq]
    have h2 := szI_le hh
    refine goCall_sc (k_laws_szIntS ys (szI xs t) hy (by omega) (by omega)) (by repeat (first | exact vws_nil | refine vws_cons ?_ ?_ | exact vw_bb | exact vw_ii | exact vw_ss | exact vw_ints | exact vw_ints0 | exact vw_nn | exact vw_n0 | exact vw_bt | exact vw_qt | exact vw_bnat | exact vw_raw | exact vwl_nil | refine vwl_cons ?_ ?_ | refine vw_agg ?_ | refine vw_fn ?_ | assumption)) ?_
    by_cases h3 : szI ys (szI xs t) < 0
    · simp -implicitDefEqProofs (disch := omega) only [↓walk, plain, List.length_map, List.getElem?_map, Option.map_some, Nat.reduceBEq, decT, decF, iteT, iteF, wrap_ok, Int.reduceToNat, Int.reduceLE, Int.reduceLT, Int.reduceAdd, Int.reduceSub, Int.reduceNeg, reduceIte, Nat.reduceEqDiff, Nat.reduceAdd, Nat.reduceSub, Nat.reduceMul, Nat.reduceLeDiff, Nat.reduceShiftRight, Nat.reduceMod, reduceCtorEq]
      exact data_i (by unfold szQ; rw [if_neg hh, szI_neg h3])
    · simp -implicitDefEqProofs (disch := omega) only [↓walk, plain, List.length_map, List.getElem?_map, Option.map_some, Nat.reduceBEq, decT, decF, iteT, iteF, wrap_ok, Int.reduceToNat, Int.reduceLE, Int.reduceLT, Int.reduceAdd, Int.reduceSub, Int.reduceNeg, reduceIte, Nat.reduceEqDiff, Nat.reduceAdd, Nat.reduceSub, Nat.reduceMul, Nat.reduceLeDiff, Nat.reduceShiftRight, Nat.reduceMod, reduceCtorEq]
      exact data_i (by unfold szQ; rw [if_neg hh])
def c_laws_toIntS : AF := ⟨22, .seq (.ops [⟨(some 2), .mv (.c .nl), none, []⟩])
  (.seq (.ops [⟨(some 5), .mv (.t 0), none, []⟩,
   ⟨(some 6), .len (.t 5), none, []⟩,
   ⟨(some 7), .mks (.i .i64 0) 8 (.t 6) (.t 6), none, []⟩,
   ⟨(some 3), .mv (.t 7), none, []⟩])
  (.seq (.seq (.ops [⟨(some 4), .mv (.c (.i .i64 0)), none, []⟩])
  (.block 0 (.loop (.seq (.seq (.ops [⟨(some 8), .mv (.t 4), none, []⟩,
   ⟨(some 9), .mv (.t 0), none, []⟩,
   ⟨(some 10), .len (.t 9), none, []⟩,
   ⟨(some 11), .bin .lss (.t 8) (.t 10), none, []⟩])
  (.cond (.t 11)
  (.skip)
  (.exit 0)))
  (.seq (.block 1 (.ops [⟨(some 14), .mv (.t 3), none, []⟩,
   ⟨(some 15), .mv (.t 4), none, []⟩,
   ⟨(some 16), .mv (.t 0), none, []⟩,
   ⟨(some 17), .mv (.t 4), none, []⟩,
   ⟨(some 18), .iad 1 (.t 16) (.t 17), none, []⟩,
   ⟨(some 19), .ld none (.t 18), none, []⟩,
   ⟨(some 20), .iad 1 (.t 14) (.t 15), none, []⟩,
   ⟨none, .st none (.t 20) (.t 19), none, []⟩]))
  (.ops [⟨(some 12), .mv (.t 4), none, []⟩,
   ⟨(some 13), .bin .add (.t 12) (.c (.i .i64 1)), none, []⟩,
   ⟨(some 4), .mv (.t 13), none, []⟩]))))))
  (.seq (.ops [⟨(some 21), .mv (.t 3), none, []⟩,
   ⟨(some 2), .mv (.t 21), none, []⟩])
  (.ret)))), [.t 2]⟩
def K_laws_toIntS (P : Program) (f : Nat) : Prop := ∀ xs : List Int, xs.length ≤ 1048576 → OCI P f [ints xs] xs
theorem t_laws_toIntS {P : Program} {f : Nat} (h : Has P f c_laws_toIntS) : K_laws_toIntS P f := by
  intro xs hx n0
  refine mc_go h (by simp) ?_
  simp -implicitDefEqProofs (disch := omega) only [↓walk, plain, List.length_map, List.getElem?_map, Option.map_some, Nat.reduceBEq, decT, decF, iteT, iteF, wrap_ok, Int.reduceToNat, Int.reduceLE, Int.reduceLT, Int.reduceAdd, Int.reduceSub, Int.reduceNeg, reduceIte, Nat.reduceEqDiff, Nat.reduceAdd, Nat.reduceSub, Nat.reduceMul, Nat.reduceLeDiff, Nat.reduceShiftRight, Nat.reduceMod, reduceCtorEq, ints, rep_map, maxB]
  refine go_loopm 2096912 (by first | rfl | (simp only [mods, modsL, modsD, optB]; rfl)) (fun K fr H n2 => ∃ (i : Nat) (os : List Int), i + K = xs.length ∧ os.length = xs.length ∧ H (n0 + 1 + 1 + 1) = some (1, os.map (.i .i64)) ∧ fr 4 = .i .i64 i ∧ os.take i = xs.take i) xs.length ?_ ?_
  · simp -implicitDefEqProofs (disch := omega) only [↓walk, plain, List.length_map, List.getElem?_map, Option.map_some, Nat.reduceBEq, decT, decF, iteT, iteF, wrap_ok, Int.reduceToNat, Int.reduceLE, Int.reduceLT, Int.reduceAdd, Int.reduceSub, Int.reduceNeg, reduceIte, Nat.reduceEqDiff, Nat.reduceAdd, Nat.reduceSub, Nat.reduceMul, Nat.reduceLeDiff, Nat.reduceShiftRight, Nat.reduceMod, reduceCtorEq]
    exact ⟨0, _, by omega, by simp, rfl, rfl, rfl⟩
  · rintro K fr H n2 ⟨i, os, hk, hl, hH, f4, he⟩
    simp -implicitDefEqProofs (disch := omega) only [↓walk, plain, List.length_map, List.getElem?_map, Option.map_some, Nat.reduceBEq, iteT, iteF, wrap_ok, Int.reduceToNat, Int.reduceLE, Int.reduceLT, Int.reduceAdd, Int.reduceSub, Int.reduceNeg, reduceIte, Nat.reduceEqDiff, Nat.reduceAdd, Nat.reduceSub, Nat.reduceMul, Nat.reduceLeDiff, Nat.reduceShiftRight, Nat.reduceMod, reduceCtorEq, f4]
    refine goC_dec (fun h0 => ?_) (fun h0 => ?_)
    · obtain ⟨a, ha⟩ := getc (xs := xs) (i := i) (by omega)
      obtain ⟨b, hb⟩ := getc (xs := os) (i := i) (by omega)
      have hset : (os.map (AV.i .i64)).set i (.i .i64 a) = (os.set i a).map (.i .i64) := by rw [List.map_set]
      simp -implicitDefEqProofs (disch := omega) only [↓walk, plain, List.length_map, List.getElem?_map, Option.map_some, Nat.reduceBEq, decT, decF, iteT, iteF, wrap_ok, Int.reduceToNat, Int.reduceLE, Int.reduceLT, Int.reduceAdd, Int.reduceSub, Int.reduceNeg, reduceIte, Nat.reduceEqDiff, Nat.reduceAdd, Nat.reduceSub, Nat.reduceMul, Nat.reduceLeDiff, Nat.reduceShiftRight, Nat.reduceMod, reduceCtorEq, f4, ha, hb, hH, hset]
      refine ⟨K - 1, by omega, i + 1, os.set i a, by omega, by simpa using hl, rfl, rfl, ?_⟩
      rw [List.take_add_one, List.take_add_one, List.getElem?_set_self (by omega), ha, List.take_set_of_le (by omega), he]
    · simp -implicitDefEqProofs (disch := omega) only [↓walk, plain, List.length_map, List.getElem?_map, Option.map_some, Nat.reduceBEq, decT, decF, iteT, iteF, wrap_ok, Int.reduceToNat, Int.reduceLE, Int.reduceLT, Int.reduceAdd, Int.reduceSub, Int.reduceNeg, reduceIte, Nat.reduceEqDiff, Nat.reduceAdd, Nat.reduceSub, Nat.reduceMul, Nat.reduceLeDiff, Nat.reduceShiftRight, Nat.reduceMod, reduceCtorEq]
      rw [take_all (by omega), take_all (by omega)] at he
      subst he
      exact .inr ⟨_, _, by omega, rfl, hH, by rw [List.take_of_length_le (by simp)]⟩
def c_laws_toBigInt (n_laws_toIntS : Nat) : AF := ⟨12, .seq (.ops [⟨(some 1), .box (.t 0), none, []⟩,
   ⟨(some 2), .new (.agg [(.b false), .nl]), none, []⟩])
  (.seq (.ops [⟨(some 3), .new (.agg [(.b false), .nl]), none, []⟩])
  (.seq (.ops [⟨(some 4), .fad 0 (.t 1), none, []⟩,
   ⟨(some 5), .ld none (.t 4), none, []⟩,
   ⟨(some 6), .fad 0 (.t 3), none, []⟩,
   ⟨none, .st none (.t 6) (.t 5), none, []⟩])
  (.seq (.ops [⟨(some 7), .fad 1 (.t 1), none, []⟩,
   ⟨(some 8), .ld none (.t 7), none, []⟩,
   ⟨(some 9), .call true n_laws_toIntS [(.t 8)], none, []⟩,
   ⟨(some 10), .fad 1 (.t 3), none, []⟩,
   ⟨none, .st none (.t 10) (.t 9), none, []⟩])
  (.seq (.ops [⟨(some 11), .ld (some 2) (.t 3), none, []⟩,
   ⟨none, .st (some 2) (.t 2) (.t 11), none, []⟩])
  (.ret))))), [.cell (some 2) 2]⟩
def K_laws_toBigInt (P : Program) (f : Nat) : Prop := ∀ (b : Bool) (xs : List Int), xs.length ≤ 1048576 → PC P f [.agg [.b b, ints xs]] (fun n => .agg [.b b, .sl (some n) (xs.map (.i .i64))]) 1 False
theorem t_laws_toBigInt {P : Program} {f n_laws_toIntS : Nat} (h : Has P f (c_laws_toBigInt n_laws_toIntS)) (k_laws_toIntS : K_laws_toIntS P n_laws_toIntS) : K_laws_toBigInt P f := by
  intro b xs hx
  refine pc_go h (by simp) ?_
  simp -implicitDefEqProofs (disch := omega) only [↓walk, plain, List.length_map, List.getElem?_map, Option.map_some, Nat.reduceBEq, decT, decF, iteT, iteF, wrap_ok, Int.reduceToNat, Int.reduceLE, Int.reduceLT, Int.reduceAdd, Int.reduceSub, Int.reduceNeg, reduceIte, Nat.reduceEqDiff, Nat.reduceAdd, Nat.reduceSub, Nat.reduceMul, Nat.reduceLeDiff, Nat.reduceShiftRight, Nat.reduceMod, reduceCtorEq, ints]
  refine goCall_fc (OCI.fc (k_laws_toIntS xs hx)) (by repeat (first | exact vws_nil | refine vws_cons ?_ ?_ | exact vw_bb | exact vw_ii | exact vw_ss | exact vw_ints | exact vw_ints0 | exact vw_nn | exact vw_n0 | exact vw_bt | exact vw_qt | exact vw_bnat | exact vw_raw | exact vwl_nil | refine vwl_cons ?_ ?_ | refine vw_agg ?_ | refine vw_fn ?_ | assumption)) ?_
  simp -implicitDefEqProofs (disch := omega) only [↓walk, plain, List.length_map, List.getElem?_map, Option.map_some, Nat.reduceBEq, decT, decF, iteT, iteF, wrap_ok, Int.reduceToNat, Int.reduceLE, Int.reduceLT, Int.reduceAdd, Int.reduceSub, Int.reduceNeg, reduceIte, Nat.reduceEqDiff, Nat.reduceAdd, Nat.reduceSub, Nat.reduceMul, Nat.reduceLeDiff, Nat.reduceShiftRight, Nat.reduceMod, reduceCtorEq]
  exact (fz_agg (fzl_cons fz_b (fzl_cons (fz_ints_sl rfl) fzl_nil))).data (by simp)
def c_laws_toRat (n_laws_toBigInt : Nat) (n_laws_toIntS : Nat) : AF := ⟨13, .seq (.ops [⟨(some 1), .box (.t 0), none, []⟩,
   ⟨(some 2), .new (.agg [(.b false), .nl, .nl]), none, []⟩])
  (.seq (.ops [⟨(some 3), .new (.agg [(.b false), .nl, .nl]), none, []⟩])
  (.seq (.ops [⟨(some 4), .fad 0 (.t 1), none, []⟩,
   ⟨(some 5), .ld (some 2) (.t 4), none, []⟩,
   ⟨(some 6), .call true n_laws_toBigInt [(.t 5)], none, []⟩,
   ⟨(some 7), .fad 0 (.t 3), none, []⟩,
   ⟨none, .st (some 2) (.t 7) (.t 6), none, []⟩])
  (.seq (.ops [⟨(some 8), .fad 2 (.t 1), none, []⟩,
   ⟨(some 9), .ld none (.t 8), none, []⟩,
   ⟨(some 10), .call true n_laws_toIntS [(.t 9)], none, []⟩,
   ⟨(some 11), .fad 2 (.t 3), none, []⟩,
   ⟨none, .st none (.t 11) (.t 10), none, []⟩])
  (.seq (.ops [⟨(some 12), .ld (some 3) (.t 3), none, []⟩,
   ⟨none, .st (some 3) (.t 2) (.t 12), none, []⟩])
  (.ret))))), [.cell (some 3) 2]⟩
def K_laws_toRat (P : Program) (f : Nat) : Prop := ∀ (b : Bool) (xs ys : List Int), xs.length ≤ 1048576 → ys.length ≤ 1048576 → PC P f [rawq b xs ys] (rawtf b xs ys) 2 False
theorem t_laws_toRat {P : Program} {f n_laws_toBigInt n_laws_toIntS : Nat} (h : Has P f (c_laws_toRat n_laws_toBigInt n_laws_toIntS)) (k_laws_toBigInt : K_laws_toBigInt P n_laws_toBigInt) (k_laws_toIntS : K_laws_toIntS P n_laws_toIntS) : K_laws_toRat P f := by
  intro b xs ys hx hy
  refine pc_go h (by simp) ?_
  simp -implicitDefEqProofs (disch := omega) only [↓walk, plain, List.length_map, List.getElem?_map, Option.map_some, Nat.reduceBEq, decT, decF, iteT, iteF, wrap_ok, Int.reduceToNat, Int.reduceLE, Int.reduceLT, Int.reduceAdd, Int.reduceSub, Int.reduceNeg, reduceIte, Nat.reduceEqDiff, Nat.reduceAdd, Nat.reduceSub, Nat.reduceMul, Nat.reduceLeDiff, Nat.reduceShiftRight, Nat.reduceMod, reduceCtorEq, rawq, ints]
  refine goCall_fc (k_laws_toBigInt b xs hx) (by repeat (first | exact vws_nil | refine vws_cons ?_ ?_ | exact vw_bb | exact vw_ii | exact vw_ss | exact vw_ints | exact vw_ints0 | exact vw_nn | exact vw_n0 | exact vw_bt | exact vw_qt | exact vw_bnat | exact vw_raw | exact vwl_nil | refine vwl_cons ?_ ?_ | refine vw_agg ?_ | refine vw_fn ?_ | assumption)) ?_
  simp -implicitDefEqProofs (disch := omega) only [↓walk, plain, List.length_map, List.getElem?_map, Option.map_some, Nat.reduceBEq, decT, decF, iteT, iteF, wrap_ok, Int.reduceToNat, Int.reduceLE, Int.reduceLT, Int.reduceAdd, Int.reduceSub, Int.reduceNeg, reduceIte, Nat.reduceEqDiff, Nat.reduceAdd, Nat.reduceSub, Nat.reduceMul, Nat.reduceLeDiff, Nat.reduceShiftRight, Nat.reduceMod, reduceCtorEq]
  refine goCall_fc (OCI.fc (k_laws_toIntS ys hy)) (by repeat (first | exact vws_nil | refine vws_cons ?_ ?_ | exact vw_bb | exact vw_ii | exact vw_ss | exact vw_ints | exact vw_ints0 | exact vw_nn | exact vw_n0 | exact vw_bt | exact vw_qt | exact vw_bnat | exact vw_raw | exact vwl_nil | refine vwl_cons ?_ ?_ | refine vw_agg ?_ | refine vw_fn ?_ | assumption)) ?_
  simp -implicitDefEqProofs (disch := omega) only [↓walk, plain, List.length_map, List.getElem?_map, Option.map_some, Nat.reduceBEq, decT, decF, iteT, iteF, wrap_ok, Int.reduceToNat, Int.reduceLE, Int.reduceLT, Int.reduceAdd, Int.reduceSub, Int.reduceNeg, reduceIte, Nat.reduceEqDiff, Nat.reduceAdd, Nat.reduceSub, Nat.reduceMul, Nat.reduceLeDiff, Nat.reduceShiftRight, Nat.reduceMod, reduceCtorEq]
  exact (fz_agg (fzl_cons fz_b (fzl_cons (fz_ints_sl rfl) (fzl_cons (fz_ints_sl rfl) fzl_nil)))).data (by simp)
def c_laws_eqIntS : AF := ⟨26, .seq (.ops [⟨(some 4), .mv (.c (.b false)), none, []⟩])
  (.seq (.seq (.ops [⟨(some 6), .mv (.t 0), none, []⟩,
   ⟨(some 7), .len (.t 6), none, []⟩,
   ⟨(some 8), .mv (.t 1), none, []⟩,
   ⟨(some 9), .len (.t 8), none, []⟩,
   ⟨(some 10), .bin .neq (.t 7) (.t 9), none, []⟩])
  (.cond (.t 10)
  (.seq (.ops [⟨(some 4), .mv (.c (.b false)), none, []⟩])
   (.ret))
  (.skip)))
  (.seq (.seq (.ops [⟨(some 5), .mv (.c (.i .i64 0)), none, []⟩])
  (.block 0 (.loop (.seq (.seq (.ops [⟨(some 11), .mv (.t 5), none, []⟩,
   ⟨(some 12), .mv (.t 0), none, []⟩,
   ⟨(some 13), .len (.t 12), none, []⟩,
   ⟨(some 14), .bin .lss (.t 11) (.t 13), none, []⟩])
  (.cond (.t 14)
  (.skip)
  (.exit 0)))
  (.seq (.block 1 (.seq (.opsd [(0, ⟨(some 17), .mv (.t 0), none, []⟩),
   (1, ⟨(some 18), .mv (.t 5), none, []⟩),
   (2, ⟨(some 19), .iad 1 (.t 17) (.t 18), none, []⟩),
   (3, ⟨(some 20), .ld none (.t 19), none, []⟩),
   (4, ⟨(some 21), .mv (.t 1), none, []⟩),
   (5, ⟨(some 22), .mv (.t 5), none, []⟩),
   (6, ⟨(some 23), .iad 1 (.t 21) (.t 22), none, []⟩),
   (7, ⟨(some 24), .ld none (.t 23), none, []⟩),
   (8, ⟨(some 25), .bin .neq (.t 20) (.t 24), none, []⟩)])
  (.cond (.t 25)
  (.seq (.ops [⟨(some 4), .mv (.c (.b false)), none, []⟩])
   (.ret))
  (.skip))))
  (.ops [⟨(some 15), .mv (.t 5), none, []⟩,
   ⟨(some 16), .bin .add (.t 15) (.c (.i .i64 1)), none, []⟩,
   ⟨(some 5), .mv (.t 16), none, []⟩]))))))
  (.seq (.ops [⟨(some 4), .mv (.c (.b true)), none, []⟩])
  (.ret)))), [.t 4]⟩
def K_laws_eqIntS (P : Program) (f : Nat) : Prop := ∀ xs ys : List Int, xs.length < 9223372036854775808 → ys.length < 9223372036854775808 → SC P f [ints xs, ints ys] (.b (decide (xs = ys)))
theorem t_laws_eqIntS {P : Program} {f : Nat} (h : Has P f c_laws_eqIntS) : K_laws_eqIntS P f := by
  intro xs ys hx hy
  refine sc_go h (by simp) ?_
  by_cases hl : xs.length = ys.length
  · simp -implicitDefEqProofs (disch := omega) only [↓walk, plain, List.length_map, List.getElem?_map, Option.map_some, Nat.reduceBEq, decT, decF, iteT, iteF, wrap_ok, Int.reduceToNat, Int.reduceLE, Int.reduceLT, Int.reduceAdd, Int.reduceSub, Int.reduceNeg, reduceIte, Nat.reduceEqDiff, Nat.reduceAdd, Nat.reduceSub, Nat.reduceMul, Nat.reduceLeDiff, Nat.reduceShiftRight, Nat.reduceMod, reduceCtorEq, ints]
    refine go_loopm 67106864 (by first | rfl | (simp only [mods, modsL, modsD, optB]; rfl)) (fun k fr H n => ∃ i : Nat, i + k = xs.length ∧ fr 5 = .i .i64 i ∧ xs.take i = ys.take i) xs.length ?_ ?_
    · simp -implicitDefEqProofs (disch := omega) only [↓walk, plain, List.length_map, List.getElem?_map, Option.map_some, Nat.reduceBEq, decT, decF, iteT, iteF, wrap_ok, Int.reduceToNat, Int.reduceLE, Int.reduceLT, Int.reduceAdd, Int.reduceSub, Int.reduceNeg, reduceIte, Nat.reduceEqDiff, Nat.reduceAdd, Nat.reduceSub, Nat.reduceMul, Nat.reduceLeDiff, Nat.reduceShiftRight, Nat.reduceMod, reduceCtorEq]
      exact ⟨0, by omega, rfl, rfl⟩
    · rintro k fr H n ⟨i, hk, f5, he⟩
      simp -implicitDefEqProofs (disch := omega) only [↓walk, plain, List.length_map, List.getElem?_map, Option.map_some, Nat.reduceBEq, iteT, iteF, wrap_ok, Int.reduceToNat, Int.reduceLE, Int.reduceLT, Int.reduceAdd, Int.reduceSub, Int.reduceNeg, reduceIte, Nat.reduceEqDiff, Nat.reduceAdd, Nat.reduceSub, Nat.reduceMul, Nat.reduceLeDiff, Nat.reduceShiftRight, Nat.reduceMod, reduceCtorEq, f5]
      refine goC_dec (fun h0 => ?_) (fun h0 => ?_)
      · obtain ⟨a, ha⟩ := getc (xs := xs) (i := i) (by omega)
        obtain ⟨b, hb⟩ := getc (xs := ys) (i := i) (by omega)
        by_cases hab : a = b
        · subst hab
          simp -implicitDefEqProofs (disch := omega) only [↓walk, plain, List.length_map, List.getElem?_map, Option.map_some, Nat.reduceBEq, decT, decF, iteT, iteF, wrap_ok, Int.reduceToNat, Int.reduceLE, Int.reduceLT, Int.reduceAdd, Int.reduceSub, Int.reduceNeg, reduceIte, Nat.reduceEqDiff, Nat.reduceAdd, Nat.reduceSub, Nat.reduceMul, Nat.reduceLeDiff, Nat.reduceShiftRight, Nat.reduceMod, reduceCtorEq, f5, ha, hb]
          exact ⟨k - 1, by omega, i + 1, by omega, rfl, by rw [List.take_add_one, List.take_add_one, he, ha, hb]⟩
        · simp -implicitDefEqProofs (disch := omega) only [↓walk, plain, List.length_map, List.getElem?_map, Option.map_some, Nat.reduceBEq, decT, decF, iteT, iteF, wrap_ok, Int.reduceToNat, Int.reduceLE, Int.reduceLT, Int.reduceAdd, Int.reduceSub, Int.reduceNeg, reduceIte, Nat.reduceEqDiff, Nat.reduceAdd, Nat.reduceSub, Nat.reduceMul, Nat.reduceLeDiff, Nat.reduceShiftRight, Nat.reduceMod, reduceCtorEq, f5, ha, hb]
          exact data_b (decide_eq_false (fun e => by subst e; rw [ha] at hb; cases hb; exact hab rfl)).symm
      · simp -implicitDefEqProofs (disch := omega) only [↓walk, plain, List.length_map, List.getElem?_map, Option.map_some, Nat.reduceBEq, decT, decF, iteT, iteF, wrap_ok, Int.reduceToNat, Int.reduceLE, Int.reduceLT, Int.reduceAdd, Int.reduceSub, Int.reduceNeg, reduceIte, Nat.reduceEqDiff, Nat.reduceAdd, Nat.reduceSub, Nat.reduceMul, Nat.reduceLeDiff, Nat.reduceShiftRight, Nat.reduceMod, reduceCtorEq]
        rw [take_all (by omega), take_all (by omega)] at he
        exact data_b (decide_eq_true he).symm
  · simp -implicitDefEqProofs (disch := omega) only [↓walk, plain, List.length_map, List.getElem?_map, Option.map_some, Nat.reduceBEq, decT, decF, iteT, iteF, wrap_ok, Int.reduceToNat, Int.reduceLE, Int.reduceLT, Int.reduceAdd, Int.reduceSub, Int.reduceNeg, reduceIte, Nat.reduceEqDiff, Nat.reduceAdd, Nat.reduceSub, Nat.reduceMul, Nat.reduceLeDiff, Nat.reduceShiftRight, Nat.reduceMod, reduceCtorEq, ints]
    exact data_b (decide_eq_false (fun e => hl (by rw [e]))).symm
def c_laws_eqBigInt (n_laws_eqIntS : Nat) : AF := ⟨16, .seq (.ops [⟨(some 2), .box (.t 0), none, []⟩,
   ⟨(some 3), .box (.t 1), none, []⟩,
   ⟨(some 4), .mv (.c (.b false)), none, []⟩])
  (.seq (.seq (.ops [⟨(some 5), .fad 0 (.t 2), none, []⟩,
   ⟨(some 6), .ld none (.t 5), none, []⟩,
   ⟨(some 7), .fad 0 (.t 3), none, []⟩,
   ⟨(some 8), .ld none (.t 7), none, []⟩,
   ⟨(some 9), .beq true (.t 6) (.t 8), none, []⟩])
  (.cond (.t 9)
  (.seq (.ops [⟨(some 4), .mv (.c (.b false)), none, []⟩])
   (.ret))
  (.skip)))
  (.seq (.seq (.ops [⟨(some 10), .fad 1 (.t 2), none, []⟩,
   ⟨(some 11), .ld none (.t 10), none, []⟩,
   ⟨(some 12), .fad 1 (.t 3), none, []⟩,
   ⟨(some 13), .ld none (.t 12), none, []⟩,
   ⟨(some 14), .call true n_laws_eqIntS [(.t 11), (.t 13)], none, []⟩,
   ⟨(some 15), .not (.t 14), none, []⟩])
  (.cond (.t 15)
  (.seq (.ops [⟨(some 4), .mv (.c (.b false)), none, []⟩])
   (.ret))
  (.skip)))
  (.seq (.ops [⟨(some 4), .mv (.c (.b true)), none, []⟩])
  (.ret)))), [.t 4]⟩
def K_laws_eqBigInt (P : Program) (f : Nat) : Prop := ∀ (b : Bool) (xs : List Int) (b2 : Bool) (ys : List Int), xs.length < 9223372036854775808 → ys.length < 9223372036854775808 → SC P f [.agg [.b b, ints xs], .agg [.b b2, ints ys]] (.b (b == b2 && decide (xs = ys)))
theorem t_laws_eqBigInt {P : Program} {f n_laws_eqIntS : Nat} (h : Has P f (c_laws_eqBigInt n_laws_eqIntS)) (k_laws_eqIntS : K_laws_eqIntS P n_laws_eqIntS) : K_laws_eqBigInt P f := by
  intro b xs b2 ys hx hy
  refine sc_go h (by simp) ?_
  cases b <;> cases b2
  · simp -implicitDefEqProofs (disch := omega) only [↓walk, plain, List.length_map, List.getElem?_map, Option.map_some, Nat.reduceBEq, decT, decF, iteT, iteF, wrap_ok, Int.reduceToNat, Int.reduceLE, Int.reduceLT, Int.reduceAdd, Int.reduceSub, Int.reduceNeg, reduceIte, Nat.reduceEqDiff, Nat.reduceAdd, Nat.reduceSub, Nat.reduceMul, Nat.reduceLeDiff, Nat.reduceShiftRight, Nat.reduceMod, reduceCtorEq, ints, bb]
    refine goCall_sc (k_laws_eqIntS xs ys hx hy) (by repeat (first | exact vws_nil | refine vws_cons ?_ ?_ | exact vw_bb | exact vw_ii | exact vw_ss | exact vw_ints | exact vw_ints0 | exact vw_nn | exact vw_n0 | exact vw_bt | exact vw_qt | exact vw_bnat | exact vw_raw | exact vwl_nil | refine vwl_cons ?_ ?_ | refine vw_agg ?_ | refine vw_fn ?_ | assumption)) ?_
    by_cases he : xs = ys
    · simp -implicitDefEqProofs (disch := omega) only [↓walk, plain, List.length_map, List.getElem?_map, Option.map_some, Nat.reduceBEq, decT, decF, iteT, iteF, wrap_ok, Int.reduceToNat, Int.reduceLE, Int.reduceLT, Int.reduceAdd, Int.reduceSub, Int.reduceNeg, reduceIte, Nat.reduceEqDiff, Nat.reduceAdd, Nat.reduceSub, Nat.reduceMul, Nat.reduceLeDiff, Nat.reduceShiftRight, Nat.reduceMod, reduceCtorEq, decide_eq_true he, bb]
      exact data_b (by simp)
    · simp -implicitDefEqProofs (disch := omega) only [↓walk, plain, List.length_map, List.getElem?_map, Option.map_some, Nat.reduceBEq, decT, decF, iteT, iteF, wrap_ok, Int.reduceToNat, Int.reduceLE, Int.reduceLT, Int.reduceAdd, Int.reduceSub, Int.reduceNeg, reduceIte, Nat.reduceEqDiff, Nat.reduceAdd, Nat.reduceSub, Nat.reduceMul, Nat.reduceLeDiff, Nat.reduceShiftRight, Nat.reduceMod, reduceCtorEq, decide_eq_false he, bb]
      exact data_b (by simp)
  · simp -implicitDefEqProofs (disch := omega) only [↓walk, plain, List.length_map, List.getElem?_map, Option.map_some, Nat.reduceBEq, decT, decF, iteT, iteF, wrap_ok, Int.reduceToNat, Int.reduceLE, Int.reduceLT, Int.reduceAdd, Int.reduceSub, Int.reduceNeg, reduceIte, Nat.reduceEqDiff, Nat.reduceAdd, Nat.reduceSub, Nat.reduceMul, Nat.reduceLeDiff, Nat.reduceShiftRight, Nat.reduceMod, reduceCtorEq, ints, bb]
    exact data_b (by simp)
  · simp -implicitDefEqProofs (disch := omega) only [↓walk, plain, List.length_map, List.getElem?_map, Option.map_some, Nat.reduceBEq, decT, decF, iteT, iteF, wrap_ok, Int.reduceToNat, Int.reduceLE, Int.reduceLT, Int.reduceAdd, Int.reduceSub, Int.reduceNeg, reduceIte, Nat.reduceEqDiff, Nat.reduceAdd, Nat.reduceSub, Nat.reduceMul, Nat.reduceLeDiff, Nat.reduceShiftRight, Nat.reduceMod, reduceCtorEq, ints, bb]
    exact data_b (by simp)
  · simp -implicitDefEqProofs (disch := omega) only [↓walk, plain, List.length_map, List.getElem?_map, Option.map_some, Nat.reduceBEq, decT, decF, iteT, iteF, wrap_ok, Int.reduceToNat, Int.reduceLE, Int.reduceLT, Int.reduceAdd, Int.reduceSub, Int.reduceNeg, reduceIte, Nat.reduceEqDiff, Nat.reduceAdd, Nat.reduceSub, Nat.reduceMul, Nat.reduceLeDiff, Nat.reduceShiftRight, Nat.reduceMod, reduceCtorEq, ints, bb]
    refine goCall_sc (k_laws_eqIntS xs ys hx hy) (by repeat (first | exact vws_nil | refine vws_cons ?_ ?_ | exact vw_bb | exact vw_ii | exact vw_ss | exact vw_ints | exact vw_ints0 | exact vw_nn | exact vw_n0 | exact vw_bt | exact vw_qt | exact vw_bnat | exact vw_raw | exact vwl_nil | refine vwl_cons ?_ ?_ | refine vw_agg ?_ | refine vw_fn ?_ | assumption)) ?_
    by_cases he : xs = ys
    · simp -implicitDefEqProofs (disch := omega) only [↓walk, plain, List.length_map, List.getElem?_map, Option.map_some, Nat.reduceBEq, decT, decF, iteT, iteF, wrap_ok, Int.reduceToNat, Int.reduceLE, Int.reduceLT, Int.reduceAdd, Int.reduceSub, Int.reduceNeg, reduceIte, Nat.reduceEqDiff, Nat.reduceAdd, Nat.reduceSub, Nat.reduceMul, Nat.reduceLeDiff, Nat.reduceShiftRight, Nat.reduceMod, reduceCtorEq, decide_eq_true he, bb]
      exact data_b (by simp)
    · simp -implicitDefEqProofs (disch := omega) only [↓walk, plain, List.length_map, List.getElem?_map, Option.map_some, Nat.reduceBEq, decT, decF, iteT, iteF, wrap_ok, Int.reduceToNat, Int.reduceLE, Int.reduceLT, Int.reduceAdd, Int.reduceSub, Int.reduceNeg, reduceIte, Nat.reduceEqDiff, Nat.reduceAdd, Nat.reduceSub, Nat.reduceMul, Nat.reduceLeDiff, Nat.reduceShiftRight, Nat.reduceMod, reduceCtorEq, decide_eq_false he, bb]
      exact data_b (by simp)
def c_laws_eqRat (n_laws_eqBigInt : Nat) (n_laws_eqIntS : Nat) : AF := ⟨17, .seq (.ops [⟨(some 2), .box (.t 0), none, []⟩,
   ⟨(some 3), .box (.t 1), none, []⟩,
   ⟨(some 4), .mv (.c (.b false)), none, []⟩])
  (.seq (.seq (.ops [⟨(some 5), .fad 0 (.t 2), none, []⟩,
   ⟨(some 6), .ld (some 2) (.t 5), none, []⟩,
   ⟨(some 7), .fad 0 (.t 3), none, []⟩,
   ⟨(some 8), .ld (some 2) (.t 7), none, []⟩,
   ⟨(some 9), .call true n_laws_eqBigInt [(.t 6), (.t 8)], none, []⟩,
   ⟨(some 10), .not (.t 9), none, []⟩])
  (.cond (.t 10)
  (.seq (.ops [⟨(some 4), .mv (.c (.b false)), none, []⟩])
   (.ret))
  (.skip)))
  (.seq (.seq (.ops [⟨(some 11), .fad 2 (.t 2), none, []⟩,
   ⟨(some 12), .ld none (.t 11), none, []⟩,
   ⟨(some 13), .fad 2 (.t 3), none, []⟩,
   ⟨(some 14), .ld none (.t 13), none, []⟩,
   ⟨(some 15), .call true n_laws_eqIntS [(.t 12), (.t 14)], none, []⟩,
   ⟨(some 16), .not (.t 15), none, []⟩])
  (.cond (.t 16)
  (.seq (.ops [⟨(some 4), .mv (.c (.b false)), none, []⟩])
   (.ret))
  (.skip)))
  (.seq (.ops [⟨(some 4), .mv (.c (.b true)), none, []⟩])
  (.ret)))), [.t 4]⟩
def K_laws_eqRat (P : Program) (f : Nat) : Prop := ∀ (b : Bool) (xs ys : List Int) (b2 : Bool) (xs2 ys2 : List Int), xs.length < 9223372036854775808 → ys.length < 9223372036854775808 → xs2.length < 9223372036854775808 → ys2.length < 9223372036854775808 → SC P f [rawq b xs ys, rawq b2 xs2 ys2] (.b (b == b2 && decide (xs = xs2) && decide (ys = ys2)))
theorem t_laws_eqRat {P : Program} {f n_laws_eqBigInt n_laws_eqIntS : Nat} (h : Has P f (c_laws_eqRat n_laws_eqBigInt n_laws_eqIntS)) (k_laws_eqBigInt : K_laws_eqBigInt P n_laws_eqBigInt) (k_laws_eqIntS : K_laws_eqIntS P n_laws_eqIntS) : K_laws_eqRat P f := by
  intro b xs ys b2 xs2 ys2 h1 h2 h3 h4
  refine sc_go h (by simp) ?_
  simp -implicitDefEqProofs (disch := omega) only [↓walk, plain, List.length_map, List.getElem?_map, Option.map_some, Nat.reduceBEq, decT, decF, iteT, iteF, wrap_ok, Int.reduceToNat, Int.reduceLE, Int.reduceLT, Int.reduceAdd, Int.reduceSub, Int.reduceNeg, reduceIte, Nat.reduceEqDiff, Nat.reduceAdd, Nat.reduceSub, Nat.reduceMul, Nat.reduceLeDiff, Nat.reduceShiftRight, Nat.reduceMod, reduceCtorEq, rawq, ints]
  refine goCall_sc (k_laws_eqBigInt b xs b2 xs2 h1 h3) (by repeat (first | exact vws_nil | refine vws_cons ?_ ?_ | exact vw_bb | exact vw_ii | exact vw_ss | exact vw_ints | exact vw_ints0 | exact vw_nn | exact vw_n0 | exact vw_bt | exact vw_qt | exact vw_bnat | exact vw_raw | exact vwl_nil | refine vwl_cons ?_ ?_ | refine vw_agg ?_ | refine vw_fn ?_ | assumption)) ?_
  cases he : (b == b2 && decide (xs = xs2))
  · simp -implicitDefEqProofs (disch := omega) only [↓walk, plain, List.length_map, List.getElem?_map, Option.map_some, Nat.reduceBEq, decT, decF, iteT, iteF, wrap_ok, Int.reduceToNat, Int.reduceLE, Int.reduceLT, Int.reduceAdd, Int.reduceSub, Int.reduceNeg, reduceIte, Nat.reduceEqDiff, Nat.reduceAdd, Nat.reduceSub, Nat.reduceMul, Nat.reduceLeDiff, Nat.reduceShiftRight, Nat.reduceMod, reduceCtorEq, bb]
    exact data_b (by simp)
  · simp -implicitDefEqProofs (disch := omega) only [↓walk, plain, List.length_map, List.getElem?_map, Option.map_some, Nat.reduceBEq, decT, decF, iteT, iteF, wrap_ok, Int.reduceToNat, Int.reduceLE, Int.reduceLT, Int.reduceAdd, Int.reduceSub, Int.reduceNeg, reduceIte, Nat.reduceEqDiff, Nat.reduceAdd, Nat.reduceSub, Nat.reduceMul, Nat.reduceLeDiff, Nat.reduceShiftRight, Nat.reduceMod, reduceCtorEq, bb]
    refine goCall_sc (k_laws_eqIntS ys ys2 h2 h4) (by repeat (first | exact vws_nil | refine vws_cons ?_ ?_ | exact vw_bb | exact vw_ii | exact vw_ss | exact vw_ints | exact vw_ints0 | exact vw_nn | exact vw_n0 | exact vw_bt | exact vw_qt | exact vw_bnat | exact vw_raw | exact vwl_nil | refine vwl_cons ?_ ?_ | refine vw_agg ?_ | refine vw_fn ?_ | assumption)) ?_
    by_cases he : ys = ys2
    · simp -implicitDefEqProofs (disch := omega) only [↓walk, plain, List.length_map, List.getElem?_map, Option.map_some, Nat.reduceBEq, decT, decF, iteT, iteF, wrap_ok, Int.reduceToNat, Int.reduceLE, Int.reduceLT, Int.reduceAdd, Int.reduceSub, Int.reduceNeg, reduceIte, Nat.reduceEqDiff, Nat.reduceAdd, Nat.reduceSub, Nat.reduceMul, Nat.reduceLeDiff, Nat.reduceShiftRight, Nat.reduceMod, reduceCtorEq, decide_eq_true he, bb]
      exact data_b (by simp)
    · simp -implicitDefEqProofs (disch := omega) only [↓walk, plain, List.length_map, List.getElem?_map, Option.map_some, Nat.reduceBEq, decT, decF, iteT, iteF, wrap_ok, Int.reduceToNat, Int.reduceLE, Int.reduceLT, Int.reduceAdd, Int.reduceSub, Int.reduceNeg, reduceIte, Nat.reduceEqDiff, Nat.reduceAdd, Nat.reduceSub, Nat.reduceMul, Nat.reduceLeDiff, Nat.reduceShiftRight, Nat.reduceMod, reduceCtorEq, decide_eq_false he, bb]
      exact data_b (by simp)
def c_laws_heldIntS : AF := ⟨21, .seq (.ops [⟨(some 4), .mv (.c (.i .i64 0)), none, []⟩])
  (.seq (.seq (.ops [⟨(some 5), .mv (.c (.i .i64 0)), none, []⟩])
  (.block 0 (.loop (.seq (.seq (.ops [⟨(some 6), .mv (.t 5), none, []⟩,
   ⟨(some 7), .mv (.t 0), none, []⟩,
   ⟨(some 8), .len (.t 7), none, []⟩,
   ⟨(some 9), .bin .lss (.t 6) (.t 8), none, []⟩])
  (.cond (.t 9)
  (.skip)
  (.exit 0)))
  (.seq (.block 1 (.seq (.seq (.ops [⟨(some 12), .mv (.t 0), none, []⟩,
   ⟨(some 13), .mv (.t 5), none, []⟩,
   ⟨(some 14), .iad 1 (.t 12) (.t 13), none, []⟩,
   ⟨(some 15), .ld none (.t 14), none, []⟩,
   ⟨(some 16), .mv (.t 1), none, []⟩,
   ⟨(some 17), .bin .neq (.t 15) (.t 16), none, []⟩])
  (.cond (.t 17)
  (.seq (.ops [⟨(some 4), .mv (.c (.i .i64 (-1))), none, []⟩])
   (.ret))
  (.skip)))
  (.ops [⟨(some 18), .mv (.t 1), none, []⟩,
   ⟨(some 19), .bin .add (.t 18) (.c (.i .i64 1)), none, []⟩,
   ⟨(some 1), .mv (.t 19), none, []⟩])))
  (.ops [⟨(some 10), .mv (.t 5), none, []⟩,
   ⟨(some 11), .bin .add (.t 10) (.c (.i .i64 1)), none, []⟩,
   ⟨(some 5), .mv (.t 11), none, []⟩]))))))
  (.seq (.ops [⟨(some 20), .mv (.t 1), none, []⟩,
   ⟨(some 4), .mv (.t 20), none, []⟩])
  (.ret))), [.t 4]⟩
def K_laws_heldIntS (P : Program) (f : Nat) : Prop := ∀ (m : Nat) (k : Int), 0 ≤ k → k + m < 9223372036854775808 → SC P f [ints (upFrom k m), .i .i64 k] (.i .i64 (k + m))
theorem t_laws_heldIntS {P : Program} {f : Nat} (h : Has P f c_laws_heldIntS) : K_laws_heldIntS P f := by
  intro m k h0 h1
  refine sc_go h (by simp) ?_
  simp -implicitDefEqProofs (disch := omega) only [↓walk, plain, List.length_map, List.getElem?_map, Option.map_some, Nat.reduceBEq, decT, decF, iteT, iteF, wrap_ok, Int.reduceToNat, Int.reduceLE, Int.reduceLT, Int.reduceAdd, Int.reduceSub, Int.reduceNeg, reduceIte, Nat.reduceEqDiff, Nat.reduceAdd, Nat.reduceSub, Nat.reduceMul, Nat.reduceLeDiff, Nat.reduceShiftRight, Nat.reduceMod, reduceCtorEq, ints, upFrom_len]
  refine go_loopm 1048562 (by first | rfl | (simp only [mods, modsL, modsD, optB]; rfl)) (fun K fr H n => ∃ i : Nat, i + K = m ∧ fr 5 = .i .i64 i ∧ fr 1 = .i .i64 (k + i)) m ?_ ?_
  · simp -implicitDefEqProofs (disch := omega) only [↓walk, plain, List.length_map, List.getElem?_map, Option.map_some, Nat.reduceBEq, decT, decF, iteT, iteF, wrap_ok, Int.reduceToNat, Int.reduceLE, Int.reduceLT, Int.reduceAdd, Int.reduceSub, Int.reduceNeg, reduceIte, Nat.reduceEqDiff, Nat.reduceAdd, Nat.reduceSub, Nat.reduceMul, Nat.reduceLeDiff, Nat.reduceShiftRight, Nat.reduceMod, reduceCtorEq]
    exact ⟨0, by omega, rfl, by simp⟩
  · rintro K fr H n ⟨i, hk, f5, f1⟩
    simp -implicitDefEqProofs (disch := omega) only [↓walk, plain, List.length_map, List.getElem?_map, Option.map_some, Nat.reduceBEq, iteT, iteF, wrap_ok, Int.reduceToNat, Int.reduceLE, Int.reduceLT, Int.reduceAdd, Int.reduceSub, Int.reduceNeg, reduceIte, Nat.reduceEqDiff, Nat.reduceAdd, Nat.reduceSub, Nat.reduceMul, Nat.reduceLeDiff, Nat.reduceShiftRight, Nat.reduceMod, reduceCtorEq, f5, upFrom_len]
    refine goC_dec (fun h2 => ?_) (fun h2 => ?_)
    · have hg := upFrom_get (k := k) (m := m) (i := i) (by omega)
      simp -implicitDefEqProofs (disch := omega) only [↓walk, plain, List.length_map, List.getElem?_map, Option.map_some, Nat.reduceBEq, decT, decF, iteT, iteF, wrap_ok, Int.reduceToNat, Int.reduceLE, Int.reduceLT, Int.reduceAdd, Int.reduceSub, Int.reduceNeg, reduceIte, Nat.reduceEqDiff, Nat.reduceAdd, Nat.reduceSub, Nat.reduceMul, Nat.reduceLeDiff, Nat.reduceShiftRight, Nat.reduceMod, reduceCtorEq, f5, f1, hg, upFrom_len]
      exact ⟨K - 1, by omega, i + 1, by omega, rfl, by congr 1; omega⟩
    · simp -implicitDefEqProofs (disch := omega) only [↓walk, plain, List.length_map, List.getElem?_map, Option.map_some, Nat.reduceBEq, decT, decF, iteT, iteF, wrap_ok, Int.reduceToNat, Int.reduceLE, Int.reduceLT, Int.reduceAdd, Int.reduceSub, Int.reduceNeg, reduceIte, Nat.reduceEqDiff, Nat.reduceAdd, Nat.reduceSub, Nat.reduceMul, Nat.reduceLeDiff, Nat.reduceShiftRight, Nat.reduceMod, reduceCtorEq, f1]
      have : i = m := by omega
      subst this
      exact data_i rfl
def c_laws_heldBigInt (n_laws_heldIntS : Nat) : AF := ⟨12, .seq (.ops [⟨(some 2), .box (.t 0), none, []⟩,
   ⟨(some 4), .mv (.c (.i .i64 0)), none, []⟩])
  (.seq (.ops [⟨(some 5), .fad 1 (.t 2), none, []⟩,
   ⟨(some 6), .ld none (.t 5), none, []⟩,
   ⟨(some 7), .mv (.t 1), none, []⟩,
   ⟨(some 8), .call true n_laws_heldIntS [(.t 6), (.t 7)], none, []⟩,
   ⟨(some 1), .mv (.t 8), none, []⟩])
  (.seq (.seq (.ops [⟨(some 9), .mv (.t 1), none, []⟩,
   ⟨(some 10), .bin .lss (.t 9) (.c (.i .i64 0)), none, []⟩])
  (.cond (.t 10)
  (.seq (.ops [⟨(some 4), .mv (.c (.i .i64 (-1))), none, []⟩])
   (.ret))
  (.skip)))
  (.seq (.ops [⟨(some 11), .mv (.t 1), none, []⟩,
   ⟨(some 4), .mv (.t 11), none, []⟩])
  (.ret)))), [.t 4]⟩
def K_laws_heldBigInt (P : Program) (f : Nat) : Prop := ∀ (b : Bool) (m : Nat) (k : Int), 0 ≤ k → k + m < 9223372036854775808 → SC P f [.agg [.b b, ints (upFrom k m)], .i .i64 k] (.i .i64 (k + m))
theorem t_laws_heldBigInt {P : Program} {f n_laws_heldIntS : Nat} (h : Has P f (c_laws_heldBigInt n_laws_heldIntS)) (k_laws_heldIntS : K_laws_heldIntS P n_laws_heldIntS) : K_laws_heldBigInt P f := by
  intro b m k h0 h1
  refine sc_go h (by simp) ?_
  simp -implicitDefEqProofs (disch := omega) only [↓walk, plain, List.length_map, List.getElem?_map, Option.map_some, Nat.reduceBEq, decT, decF, iteT, iteF, wrap_ok, Int.reduceToNat, Int.reduceLE, Int.reduceLT, Int.reduceAdd, Int.reduceSub, Int.reduceNeg, reduceIte, Nat.reduceEqDiff, Nat.reduceAdd, Nat.reduceSub, Nat.reduceMul, Nat.reduceLeDiff, Nat.reduceShiftRight, Nat.reduceMod, reduceCtorEq, ints]
  refine goCall_sc (k_laws_heldIntS m k h0 h1) (by repeat (first | exact vws_nil | refine vws_cons ?_ ?_ | exact vw_bb | exact vw_ii | exact vw_ss | exact vw_ints | exact vw_ints0 | exact vw_nn | exact vw_n0 | exact vw_bt | exact vw_qt | exact vw_bnat | exact vw_raw | exact vwl_nil | refine vwl_cons ?_ ?_ | refine vw_agg ?_ | refine vw_fn ?_ | assumption)) ?_
  simp -implicitDefEqProofs (disch := omega) only [↓walk, plain, List.length_map, List.getElem?_map, Option.map_some, Nat.reduceBEq, decT, decF, iteT, iteF, wrap_ok, Int.reduceToNat, Int.reduceLE, Int.reduceLT, Int.reduceAdd, Int.reduceSub, Int.reduceNeg, reduceIte, Nat.reduceEqDiff, Nat.reduceAdd, Nat.reduceSub, Nat.reduceMul, Nat.reduceLeDiff, Nat.reduceShiftRight, Nat.reduceMod, reduceCtorEq]
  exact data_i rfl
def c_laws_heldRat (n_laws_heldBigInt : Nat) (n_laws_heldIntS : Nat) : AF := ⟨18, .seq (.ops [⟨(some 2), .box (.t 0), none, []⟩,
   ⟨(some 4), .mv (.c (.i .i64 0)), none, []⟩])
  (.seq (.ops [⟨(some 5), .fad 0 (.t 2), none, []⟩,
   ⟨(some 6), .ld (some 2) (.t 5), none, []⟩,
   ⟨(some 7), .mv (.t 1), none, []⟩,
   ⟨(some 8), .call true n_laws_heldBigInt [(.t 6), (.t 7)], none, []⟩,
   ⟨(some 1), .mv (.t 8), none, []⟩])
  (.seq (.seq (.ops [⟨(some 9), .mv (.t 1), none, []⟩,
   ⟨(some 10), .bin .lss (.t 9) (.c (.i .i64 0)), none, []⟩])
  (.cond (.t 10)
  (.seq (.ops [⟨(some 4), .mv (.c (.i .i64 (-1))), none, []⟩])
   (.ret))
  (.skip)))
  (.seq (.ops [⟨(some 11), .fad 2 (.t 2), none, []⟩,
   ⟨(some 12), .ld none (.t 11), none, []⟩,
   ⟨(some 13), .mv (.t 1), none, []⟩,
   ⟨(some 14), .call true n_laws_heldIntS [(.t 12), (.t 13)], none, []⟩,
   ⟨(some 1), .mv (.t 14), none, []⟩])
  (.seq (.seq (.ops [⟨(some 15), .mv (.t 1), none, []⟩,
   ⟨(some 16), .bin .lss (.t 15) (.c (.i .i64 0)), none, []⟩])
  (.cond (.t 16)
  (.seq (.ops [⟨(some 4), .mv (.c (.i .i64 (-1))), none, []⟩])
   (.ret))
  (.skip)))
  (.seq (.ops [⟨(some 17), .mv (.t 1), none, []⟩,
   ⟨(some 4), .mv (.t 17), none, []⟩])
  (.ret)))))), [.t 4]⟩
def K_laws_heldRat (P : Program) (f : Nat) : Prop := ∀ (b : Bool) (m l : Nat) (k : Int), 0 ≤ k → k + m + l < 9223372036854775808 → SC P f [rawq b (upFrom k m) (upFrom (k + m) l), .i .i64 k] (.i .i64 (k + m + l))
theorem t_laws_heldRat {P : Program} {f n_laws_heldBigInt n_laws_heldIntS : Nat} (h : Has P f (c_laws_heldRat n_laws_heldBigInt n_laws_heldIntS)) (k_laws_heldBigInt : K_laws_heldBigInt P n_laws_heldBigInt) (k_laws_heldIntS : K_laws_heldIntS P n_laws_heldIntS) : K_laws_heldRat P f := by
  intro b m l k h0 h1
  refine sc_go h (by simp) ?_
  simp -implicitDefEqProofs (disch := omega) only [↓walk, plain, List.length_map, List.getElem?_map, Option.map_some, Nat.reduceBEq, decT, decF, iteT, iteF, wrap_ok, Int.reduceToNat, Int.reduceLE, Int.reduceLT, Int.reduceAdd, Int.reduceSub, Int.reduceNeg, reduceIte, Nat.reduceEqDiff, Nat.reduceAdd, Nat.reduceSub, Nat.reduceMul, Nat.reduceLeDiff, Nat.reduceShiftRight, Nat.reduceMod, reduceCtorEq, rawq, ints]
  refine goCall_sc (k_laws_heldBigInt b m k h0 (by omega)) (by repeat (first | exact vws_nil | refine vws_cons ?_ ?_ | exact vw_bb | exact vw_ii | exact vw_ss | exact vw_ints | exact vw_ints0 | exact vw_nn | exact vw_n0 | exact vw_bt | exact vw_qt | exact vw_bnat | exact vw_raw | exact vwl_nil | refine vwl_cons ?_ ?_ | refine vw_agg ?_ | refine vw_fn ?_ | assumption)) ?_
  simp -implicitDefEqProofs (disch := omega) only [↓walk, plain, List.length_map, List.getElem?_map, Option.map_some, Nat.reduceBEq, decT, decF, iteT, iteF, wrap_ok, Int.reduceToNat, Int.reduceLE, Int.reduceLT, Int.reduceAdd, Int.reduceSub, Int.reduceNeg, reduceIte, Nat.reduceEqDiff, Nat.reduceAdd, Nat.reduceSub, Nat.reduceMul, Nat.reduceLeDiff, Nat.reduceShiftRight, Nat.reduceMod, reduceCtorEq]
  refine goCall_sc (k_laws_heldIntS l (k + m) (by omega) (by omega)) (by repeat (first | exact vws_nil | refine vws_cons ?_ ?_ | exact vw_bb | exact vw_ii | exact vw_ss | exact vw_ints | exact vw_ints0 | exact vw_nn | exact vw_n0 | exact vw_bt | exact vw_qt | exact vw_bnat | exact vw_raw | exact vwl_nil | refine vwl_cons ?_ ?_ | refine vw_agg ?_ | refine vw_fn ?_ | assumption)) ?_
  simp -implicitDefEqProofs (disch := omega) only [↓walk, plain, List.length_map, List.getElem?_map, Option.map_some, Nat.reduceBEq, decT, decF, iteT, iteF, wrap_ok, Int.reduceToNat, Int.reduceLE, Int.reduceLT, Int.reduceAdd, Int.reduceSub, Int.reduceNeg, reduceIte, Nat.reduceEqDiff, Nat.reduceAdd, Nat.reduceSub, Nat.reduceMul, Nat.reduceLeDiff, Nat.reduceShiftRight, Nat.reduceMod, reduceCtorEq]
  exact data_i rfl
end Go.Am
/-! Walks of the laws' own functions: marks. -/
namespace Go.Am
set_option linter.unusedVariables false
set_option linter.unusedSimpArgs false
set_option maxRecDepth 10000
set_option maxHeartbeats 4000000
theorem Heap.upd_upd {H : Heap} {t : Nat} {b c : Blk} : (H.upd t b).upd t c = H.upd t c := by
  funext u; unfold Heap.upd; split <;> rfl
theorem Heap.upd_at {H : Heap} {t : Nat} {b : Blk} : (H.upd t b) t = some b := by simp [Heap.upd]
theorem hupd_self {H : Heap} {t : Nat} {b : Blk} (h : H t = some b) : H.upd t b = H := by
  funext u; unfold Heap.upd; split
  · rename_i e; subst e; exact h.symm
  · rfl
theorem hupd_ne {H : Heap} {t u : Nat} {b : Blk} (h : u ≠ t) : (H.upd t b) u = H u := by simp [Heap.upd, h]
/-- A list of integers in an own block. -/
def tv (t : Nat) (xs : List Int) : AV := if xs = [] then .sl none [] else .rf t 0 xs.length
def OwnA (H : Heap) (t : Nat) (xs : List Int) : Prop := xs = [] ∨ H t = some (0, xs.map (.i .i64))
def markH (H : Heap) (t : Nat) (k : Int) (xs : List Int) : Heap := if xs = [] then H else H.upd t (0, (upFrom k xs.length).map (.i .i64))
theorem markH_ne {H : Heap} {t u : Nat} {k : Int} {xs : List Int} (h : u ≠ t) : markH H t k xs u = H u := by
  unfold markH; split
  · rfl
  · exact hupd_ne h
theorem upFrom_nil {k : Int} {m : Nat} : upFrom k m = [] ↔ m = 0 := by rw [← List.length_eq_zero_iff, upFrom_len]
theorem markH_own {H : Heap} {t : Nat} {k : Int} {xs : List Int} : OwnA (markH H t k xs) t (upFrom k xs.length) := by
  unfold OwnA markH
  split
  · rename_i h; subst h; left; rfl
  · right; exact Heap.upd_at
theorem tv_ok {t : Nat} {xs : List Int} : cellOk (tv t xs) = true := by unfold tv; split <;> rfl
theorem tv_len {t : Nat} {xs ys : List Int} (h : xs.length = ys.length) : tv t xs = tv t ys := by
  unfold tv
  by_cases h1 : xs = []
  · have : ys = [] := List.length_eq_zero_iff.1 (by rw [← h, h1]; rfl)
    rw [if_pos h1, if_pos this]
  · have : ys ≠ [] := fun e => h1 (List.length_eq_zero_iff.1 (by rw [h, e]; rfl))
    rw [if_neg h1, if_neg this, h]
theorem OwnA.keep {H H2 : Heap} {t : Nat} {xs : List Int} (h : OwnA H t xs) (e : H2 t = H t) : OwnA H2 t xs := h.imp id fun h => e.trans h
theorem vw_tv {H : Heap} {t : Nat} {xs : List Int} (h : OwnA H t xs) : Vw H (fun _ => True) (fun _ _ => False) True (tv t xs) (ints xs) := by
  unfold tv
  split
  · rename_i e; subst e; exact .sl0 _ _
  · rename_i e
    rcases h with h | h
    · exact absurd h e
    · exact vw_rf_ints h trivial rfl (by rw [List.take_of_length_le (by simp)])
theorem vw_rawtv {H : Heap} {t s : Nat} {b : Bool} {xs ys : List Int} (h : OwnA H t xs) (h2 : OwnA H s ys) : Vw H (fun _ => True) (fun _ _ => False) True (.agg [.b b, tv t xs, tv s ys]) (rawq b xs ys) :=
  vw_agg (vwl_cons vw_bb (vwl_cons (vw_tv h) (vwl_cons (vw_tv h2) vwl_nil)))
def c_laws_markIntS : AF := ⟨19, .seq (.ops [⟨(some 4), .mv (.c (.i .i64 0)), none, []⟩])
  (.seq (.seq (.ops [⟨(some 5), .mv (.c (.i .i64 0)), none, []⟩])
  (.block 0 (.loop (.seq (.seq (.ops [⟨(some 6), .mv (.t 5), none, []⟩,
   ⟨(some 7), .mv (.t 0), none, []⟩,
   ⟨(some 8), .len (.t 7), none, []⟩,
   ⟨(some 9), .bin .lss (.t 6) (.t 8), none, []⟩])
  (.cond (.t 9)
  (.skip)
  (.exit 0)))
  (.seq (.block 1 (.seq (.ops [⟨(some 12), .mv (.t 0), none, []⟩,
   ⟨(some 13), .mv (.t 5), none, []⟩,
   ⟨(some 14), .mv (.t 1), none, []⟩,
   ⟨(some 15), .iad 1 (.t 12) (.t 13), none, []⟩,
   ⟨none, .st none (.t 15) (.t 14), none, []⟩])
  (.ops [⟨(some 16), .mv (.t 1), none, []⟩,
   ⟨(some 17), .bin .add (.t 16) (.c (.i .i64 1)), none, []⟩,
   ⟨(some 1), .mv (.t 17), none, []⟩])))
  (.ops [⟨(some 10), .mv (.t 5), none, []⟩,
   ⟨(some 11), .bin .add (.t 10) (.c (.i .i64 1)), none, []⟩,
   ⟨(some 5), .mv (.t 11), none, []⟩]))))))
  (.seq (.ops [⟨(some 18), .mv (.t 1), none, []⟩,
   ⟨(some 4), .mv (.t 18), none, []⟩])
  (.ret))), [.t 4]⟩
def K_laws_markIntS (P : Program) (f : Nat) : Prop := ∀ (H : Heap) (n t : Nat) (xs : List Int) (k : Int), 0 ≤ k → k + xs.length < 9223372036854775808 → OwnA H t xs → MC P f [tv t xs, .i .i64 k] H n (fun v H' n' => n ≤ n' ∧ v = .i .i64 (k + xs.length) ∧ H' = markH H t k xs)
theorem t_laws_markIntS {P : Program} {f : Nat} (h : Has P f c_laws_markIntS) : K_laws_markIntS P f := by
  intro H n t xs k h0 h1 hO
  refine mc_go h (by simp) ?_
  by_cases hn : xs = []
  · subst hn
    simp -implicitDefEqProofs (disch := omega) only [↓walk, plain, List.length_map, List.getElem?_map, Option.map_some, Nat.reduceBEq, iteT, iteF, wrap_ok, Int.reduceToNat, Int.reduceLE, Int.reduceLT, Int.reduceAdd, Int.reduceSub, Int.reduceNeg, reduceIte, Nat.reduceEqDiff, Nat.reduceAdd, Nat.reduceSub, Nat.reduceMul, Nat.reduceLeDiff, Nat.reduceShiftRight, Nat.reduceMod, reduceCtorEq, tv, if_pos]
    refine go_loopm 262114 (by first | rfl | (simp only [mods, modsL, modsD, optB]; rfl)) (fun K fr H' n' => H' = H ∧ n ≤ n' ∧ fr 5 = .i .i64 0 ∧ fr 1 = .i .i64 k) 0 ?_ ?_
    · simp -implicitDefEqProofs (disch := omega) only [↓walk, plain, List.length_map, List.getElem?_map, Option.map_some, Nat.reduceBEq, decT, decF, iteT, iteF, wrap_ok, Int.reduceToNat, Int.reduceLE, Int.reduceLT, Int.reduceAdd, Int.reduceSub, Int.reduceNeg, reduceIte, Nat.reduceEqDiff, Nat.reduceAdd, Nat.reduceSub, Nat.reduceMul, Nat.reduceLeDiff, Nat.reduceShiftRight, Nat.reduceMod, reduceCtorEq]
      omega
    · rintro K fr H' n' ⟨rfl, hn', f5, f1⟩
      simp -implicitDefEqProofs (disch := omega) only [↓walk, plain, List.length_map, List.getElem?_map, Option.map_some, Nat.reduceBEq, decT, decF, iteT, iteF, wrap_ok, Int.reduceToNat, Int.reduceLE, Int.reduceLT, Int.reduceAdd, Int.reduceSub, Int.reduceNeg, reduceIte, Nat.reduceEqDiff, Nat.reduceAdd, Nat.reduceSub, Nat.reduceMul, Nat.reduceLeDiff, Nat.reduceShiftRight, Nat.reduceMod, reduceCtorEq, tv, f5, f1, List.length_nil]
      exact ⟨by omega, by simp, by simp [markH]⟩
  · have hH : H t = some (0, xs.map (.i .i64)) := by
      rcases hO with h | h
      · exact absurd h hn
      · exact h
    simp -implicitDefEqProofs (disch := omega) only [↓walk, plain, List.length_map, List.getElem?_map, Option.map_some, Nat.reduceBEq, iteT, iteF, wrap_ok, Int.reduceToNat, Int.reduceLE, Int.reduceLT, Int.reduceAdd, Int.reduceSub, Int.reduceNeg, reduceIte, Nat.reduceEqDiff, Nat.reduceAdd, Nat.reduceSub, Nat.reduceMul, Nat.reduceLeDiff, Nat.reduceShiftRight, Nat.reduceMod, reduceCtorEq, tv, if_neg hn]
    refine go_loopm 262114 (by first | rfl | (simp only [mods, modsL, modsD, optB]; rfl)) (fun K fr H' n' => ∃ (i : Nat) (os : List Int), i + K = xs.length ∧ os.length = xs.length ∧ n ≤ n' ∧ H' = H.upd t (0, os.map (.i .i64)) ∧ fr 5 = .i .i64 i ∧ fr 1 = .i .i64 (k + i) ∧ os.take i = upFrom k i) xs.length ?_ ?_
    · simp -implicitDefEqProofs (disch := omega) only [↓walk, plain, List.length_map, List.getElem?_map, Option.map_some, Nat.reduceBEq, decT, decF, iteT, iteF, wrap_ok, Int.reduceToNat, Int.reduceLE, Int.reduceLT, Int.reduceAdd, Int.reduceSub, Int.reduceNeg, reduceIte, Nat.reduceEqDiff, Nat.reduceAdd, Nat.reduceSub, Nat.reduceMul, Nat.reduceLeDiff, Nat.reduceShiftRight, Nat.reduceMod, reduceCtorEq]
      exact ⟨0, xs, by omega, rfl, by omega, (hupd_self hH).symm, rfl, by simp, rfl⟩
    · rintro K fr H' n' ⟨i, os, hk, hl, hn', rfl, f5, f1, he⟩
      simp -implicitDefEqProofs (disch := omega) only [↓walk, plain, List.length_map, List.getElem?_map, Option.map_some, Nat.reduceBEq, iteT, iteF, wrap_ok, Int.reduceToNat, Int.reduceLE, Int.reduceLT, Int.reduceAdd, Int.reduceSub, Int.reduceNeg, reduceIte, Nat.reduceEqDiff, Nat.reduceAdd, Nat.reduceSub, Nat.reduceMul, Nat.reduceLeDiff, Nat.reduceShiftRight, Nat.reduceMod, reduceCtorEq, f5]
      refine goC_dec (fun h2 => ?_) (fun h2 => ?_)
      · obtain ⟨b, hb⟩ := getc (xs := os) (i := i) (by omega)
        have hset : (os.map (AV.i .i64)).set i (.i .i64 (k + i)) = (os.set i (k + i)).map (.i .i64) := by rw [List.map_set]
        simp -implicitDefEqProofs (disch := omega) only [↓walk, plain, List.length_map, List.getElem?_map, Option.map_some, Nat.reduceBEq, decT, decF, iteT, iteF, wrap_ok, Int.reduceToNat, Int.reduceLE, Int.reduceLT, Int.reduceAdd, Int.reduceSub, Int.reduceNeg, reduceIte, Nat.reduceEqDiff, Nat.reduceAdd, Nat.reduceSub, Nat.reduceMul, Nat.reduceLeDiff, Nat.reduceShiftRight, Nat.reduceMod, reduceCtorEq, f5, f1, hb, hset]
        refine ⟨K - 1, by omega, i + 1, os.set i (k + i), by omega, by simpa using hl, by omega, ?_, rfl, by congr 1; omega, ?_⟩
        · rw [Heap.upd_upd]
        · rw [List.take_add_one, List.getElem?_set_self (by omega), List.take_set_of_le (by omega), he]
          simp [upFrom, List.range_succ]
      · simp -implicitDefEqProofs (disch := omega) only [↓walk, plain, List.length_map, List.getElem?_map, Option.map_some, Nat.reduceBEq, decT, decF, iteT, iteF, wrap_ok, Int.reduceToNat, Int.reduceLE, Int.reduceLT, Int.reduceAdd, Int.reduceSub, Int.reduceNeg, reduceIte, Nat.reduceEqDiff, Nat.reduceAdd, Nat.reduceSub, Nat.reduceMul, Nat.reduceLeDiff, Nat.reduceShiftRight, Nat.reduceMod, reduceCtorEq, f1]
        rw [take_all (by omega)] at he
        have e : i = xs.length := by omega
        subst e
        exact ⟨by omega, rfl, by rw [markH, if_neg hn, he]⟩
def c_laws_markBigInt (n_laws_markIntS : Nat) : AF := ⟨10, .seq (.ops [⟨(some 2), .box (.t 0), none, []⟩,
   ⟨(some 4), .mv (.c (.i .i64 0)), none, []⟩])
  (.seq (.ops [⟨(some 5), .fad 1 (.t 2), none, []⟩,
   ⟨(some 6), .ld none (.t 5), none, []⟩,
   ⟨(some 7), .mv (.t 1), none, []⟩,
   ⟨(some 8), .call true n_laws_markIntS [(.t 6), (.t 7)], none, []⟩,
   ⟨(some 1), .mv (.t 8), none, []⟩])
  (.seq (.ops [⟨(some 9), .mv (.t 1), none, []⟩,
   ⟨(some 4), .mv (.t 9), none, []⟩])
  (.ret))), [.t 4]⟩
def K_laws_markBigInt (P : Program) (f : Nat) : Prop := ∀ (H : Heap) (n t : Nat) (b : Bool) (xs : List Int) (k : Int), t < n → 0 ≤ k → k + xs.length < 9223372036854775808 → OwnA H t xs → MC P f [.agg [.b b, tv t xs], .i .i64 k] H n (fun v H' n' => n ≤ n' ∧ v = .i .i64 (k + xs.length) ∧ ∀ u, u < n → H' u = markH H t k xs u)
theorem t_laws_markBigInt {P : Program} {f n_laws_markIntS : Nat} (h : Has P f (c_laws_markBigInt n_laws_markIntS)) (k_laws_markIntS : K_laws_markIntS P n_laws_markIntS) : K_laws_markBigInt P f := by
  intro H n t b xs k ht h0 h1 hO
  refine mc_go h (by simp) ?_
  simp -implicitDefEqProofs (disch := omega) only [↓walk, plain, List.length_map, List.getElem?_map, Option.map_some, Nat.reduceBEq, decT, decF, iteT, iteF, wrap_ok, Int.reduceToNat, Int.reduceLE, Int.reduceLT, Int.reduceAdd, Int.reduceSub, Int.reduceNeg, reduceIte, Nat.reduceEqDiff, Nat.reduceAdd, Nat.reduceSub, Nat.reduceMul, Nat.reduceLeDiff, Nat.reduceShiftRight, Nat.reduceMod, reduceCtorEq]
  have hO2 : OwnA (H.upd n (2, [.agg [.b b, tv t xs]])) t xs := hO.imp id fun h => by rw [hupd_ne (by omega)]; exact h
  refine goCall_mc0 (k_laws_markIntS _ _ t xs k h0 h1 hO2) ?_
  rintro v H2 n2 ⟨hn2, rfl, rfl⟩
  simp -implicitDefEqProofs (disch := omega) only [↓walk, plain, List.length_map, List.getElem?_map, Option.map_some, Nat.reduceBEq, decT, decF, iteT, iteF, wrap_ok, Int.reduceToNat, Int.reduceLE, Int.reduceLT, Int.reduceAdd, Int.reduceSub, Int.reduceNeg, reduceIte, Nat.reduceEqDiff, Nat.reduceAdd, Nat.reduceSub, Nat.reduceMul, Nat.reduceLeDiff, Nat.reduceShiftRight, Nat.reduceMod, reduceCtorEq]
  refine ⟨by omega, fun u hu => ?_⟩
  unfold markH
  split
  · exact hupd_ne (by omega)
  · unfold Heap.upd
    split
    · rfl
    · rw [if_neg (by omega)]
def c_laws_markRat (n_laws_markBigInt : Nat) (n_laws_markIntS : Nat) : AF := ⟨14, .seq (.ops [⟨(some 2), .box (.t 0), none, []⟩,
   ⟨(some 4), .mv (.c (.i .i64 0)), none, []⟩])
  (.seq (.ops [⟨(some 5), .fad 0 (.t 2), none, []⟩,
   ⟨(some 6), .ld (some 2) (.t 5), none, []⟩,
   ⟨(some 7), .mv (.t 1), none, []⟩,
   ⟨(some 8), .call true n_laws_markBigInt [(.t 6), (.t 7)], none, []⟩,
   ⟨(some 1), .mv (.t 8), none, []⟩])
  (.seq (.ops [⟨(some 9), .fad 2 (.t 2), none, []⟩,
   ⟨(some 10), .ld none (.t 9), none, []⟩,
   ⟨(some 11), .mv (.t 1), none, []⟩,
   ⟨(some 12), .call true n_laws_markIntS [(.t 10), (.t 11)], none, []⟩,
   ⟨(some 1), .mv (.t 12), none, []⟩])
  (.seq (.ops [⟨(some 13), .mv (.t 1), none, []⟩,
   ⟨(some 4), .mv (.t 13), none, []⟩])
  (.ret)))), [.t 4]⟩
def K_laws_markRat (P : Program) (f : Nat) : Prop := ∀ (H : Heap) (n t s : Nat) (b : Bool) (xs ys : List Int) (k : Int), t < n → s < n → s ≠ t → 0 ≤ k → k + xs.length + ys.length < 9223372036854775808 → OwnA H t xs → OwnA H s ys → MC P f [.agg [.b b, tv t xs, tv s ys], .i .i64 k] H n (fun v H' n' => n ≤ n' ∧ v = .i .i64 (k + xs.length + ys.length) ∧ ∀ u, u < n → H' u = markH (markH H t k xs) s (k + xs.length) ys u)
theorem t_laws_markRat {P : Program} {f n_laws_markBigInt n_laws_markIntS : Nat} (h : Has P f (c_laws_markRat n_laws_markBigInt n_laws_markIntS)) (k_laws_markBigInt : K_laws_markBigInt P n_laws_markBigInt) (k_laws_markIntS : K_laws_markIntS P n_laws_markIntS) : K_laws_markRat P f := by
  intro H n t s b xs ys k ht hs hst h0 h1 hO hO2
  refine mc_go h (by simp) ?_
  simp -implicitDefEqProofs (disch := omega) only [↓walk, plain, List.length_map, List.getElem?_map, Option.map_some, Nat.reduceBEq, decT, decF, iteT, iteF, wrap_ok, Int.reduceToNat, Int.reduceLE, Int.reduceLT, Int.reduceAdd, Int.reduceSub, Int.reduceNeg, reduceIte, Nat.reduceEqDiff, Nat.reduceAdd, Nat.reduceSub, Nat.reduceMul, Nat.reduceLeDiff, Nat.reduceShiftRight, Nat.reduceMod, reduceCtorEq]
  have hO' : OwnA (H.upd n (3, [.agg [.b b, tv t xs, tv s ys]])) t xs := hO.imp id fun h => by rw [hupd_ne (by omega)]; exact h
  refine goCall_mc0 (k_laws_markBigInt _ _ t b xs k (by omega) h0 (by omega) hO') ?_
  rintro v H2 n2 ⟨hn2, rfl, hH2⟩
  have hb : H2 n = some (3, [.agg [.b b, tv t xs, tv s ys]]) := by rw [hH2 n (by omega), markH_ne (by omega)]; exact Heap.upd_at
  simp -implicitDefEqProofs (disch := omega) only [↓walk, plain, List.length_map, List.getElem?_map, Option.map_some, Nat.reduceBEq, decT, decF, iteT, iteF, wrap_ok, Int.reduceToNat, Int.reduceLE, Int.reduceLT, Int.reduceAdd, Int.reduceSub, Int.reduceNeg, reduceIte, Nat.reduceEqDiff, Nat.reduceAdd, Nat.reduceSub, Nat.reduceMul, Nat.reduceLeDiff, Nat.reduceShiftRight, Nat.reduceMod, reduceCtorEq, hb]
  have hO2' : OwnA H2 s ys := hO2.imp id fun h => by rw [hH2 s (by omega), markH_ne (by omega), hupd_ne (by omega)]; exact h
  refine goCall_mc0 (k_laws_markIntS _ _ s ys (k + xs.length) (by omega) (by omega) hO2') ?_
  rintro v H3 n3 ⟨hn3, rfl, rfl⟩
  simp -implicitDefEqProofs (disch := omega) only [↓walk, plain, List.length_map, List.getElem?_map, Option.map_some, Nat.reduceBEq, decT, decF, iteT, iteF, wrap_ok, Int.reduceToNat, Int.reduceLE, Int.reduceLT, Int.reduceAdd, Int.reduceSub, Int.reduceNeg, reduceIte, Nat.reduceEqDiff, Nat.reduceAdd, Nat.reduceSub, Nat.reduceMul, Nat.reduceLeDiff, Nat.reduceShiftRight, Nat.reduceMod, reduceCtorEq]
  refine ⟨by omega, fun u hu => ?_⟩
  have e1 : ∀ u, u < n → H2 u = markH H t k xs u := by
    intro u hu
    rw [hH2 u (by omega)]
    by_cases e : u = t
    · subst e
      unfold markH; split
      · exact hupd_ne (by omega)
      · rw [Heap.upd_at, Heap.upd_at]
    · rw [markH_ne e, markH_ne e, hupd_ne (by omega)]
  by_cases e : u = s
  · subst e
    unfold markH; split
    · exact e1 u hu
    · rw [Heap.upd_at, Heap.upd_at]
  · rw [markH_ne e, markH_ne e, e1 u hu]
theorem mark_far {H H' : Heap} {n t s : Nat} {k k2 : Int} {xs ys : List Int} (h : ∀ u, u < n → H' u = markH (markH H t k xs) s k2 ys u) : ∀ u, u < n → u ≠ t → u ≠ s → H' u = H u :=
  fun u h1 h2 h3 => by rw [h u h1, markH_ne h3, markH_ne h2]
theorem mark_own1 {H H' : Heap} {n t s : Nat} {k k2 : Int} {xs ys : List Int} (h : ∀ u, u < n → H' u = markH (markH H t k xs) s k2 ys u) (ht : t < n) (hts : t ≠ s) : OwnA H' t (upFrom k xs.length) :=
  markH_own.keep (by rw [h t ht, markH_ne hts])
theorem mark_own2 {H H' : Heap} {n t s : Nat} {k k2 : Int} {xs ys : List Int} (h : ∀ u, u < n → H' u = markH (markH H t k xs) s k2 ys u) (hs : s < n) : OwnA H' s (upFrom k2 ys.length) :=
  markH_own.keep (h s hs)
theorem vw_marked {H : Heap} {t s : Nat} {b : Bool} {xs ys : List Int} {k k2 : Int} (h : OwnA H t (upFrom k xs.length)) (h2 : OwnA H s (upFrom k2 ys.length)) : Vw H (fun _ => True) (fun _ _ => False) True (.agg [.b b, tv t xs, tv s ys]) (rawq b (upFrom k xs.length) (upFrom k2 ys.length)) := by
  rw [tv_len (xs := xs) (ys := upFrom k xs.length) upFrom_len.symm, tv_len (xs := ys) (ys := upFrom k2 ys.length) upFrom_len.symm]
  exact vw_rawtv h h2
def bl (k : Nat) (xs : List Int) : List (Nat × List AV) := if xs = [] then [] else [(k, xs.map (.i .i64))]
theorem thw_flat {xs : List Int} : ThwL (xs.map (.i .i64)) (xs.map (.i .i64)) [] := by
  induction xs with
  | nil => exact .nil
  | cons a r ih => exact .i _ _ ih
theorem thw_int {k : Nat} {xs : List Int} {r r' : List AV} {bs : List (Nat × List AV)} (hx : xs.length ≤ 1048576) (h : ThwL r r' bs) : ThwL (.sl (some k) (xs.map (.i .i64)) :: r) (tv k xs :: r') (bl k xs ++ bs) := by
  unfold tv bl
  by_cases e : xs = []
  · subst e; exact .sl0 _ h
  · rw [if_neg e, if_neg e]
    have := ThwL.sl k 1 (es := xs.map (.i .i64)) (by simpa using e) (by rw [List.length_map]; simp only [maxLen]; omega) (by omega) (by intro x hx; obtain ⟨a, _, rfl⟩ := List.mem_map.1 hx; rfl) thw_flat h
    rw [List.length_map] at this
    exact this
theorem bl_mem {k : Nat} {xs : List Int} {e : Nat × List AV} (h : e ∈ bl k xs) : e.1 = k ∧ e = (k, xs.map (.i .i64)) ∧ xs ≠ [] := by
  unfold bl at h
  split at h
  · cases h
  · rename_i hx; rw [List.mem_singleton] at h; subst h; exact ⟨rfl, rfl, hx⟩
theorem bl_keys {k : Nat} {xs : List Int} : ((bl k xs).map (·.1)).Nodup := by unfold bl; split <;> simp
theorem bl_in {k : Nat} {xs : List Int} (h : xs ≠ []) : (k, xs.map (.i .i64)) ∈ bl k xs := by unfold bl; rw [if_neg h]; simp
/-- Fields in memory of one's own. -/
theorem own_raw {P : Program} {f : Nat} {args args' : List AV} {b : Bool} {xs ys : List Int} {H : Heap} {n : Nat} (h : PC P f args' (rawtf b xs ys) 2 False) (hv0 : Vws noHeap (fun _ => True) args' args') (hv : Vws H (fun _ => True) args args') (hx : xs.length ≤ 1048576) (hy : ys.length ≤ 1048576) :
    MC P f args H n fun v H2 n2 => n2 = n + 2 ∧ v = .agg [.b b, tv n xs, tv (n + 1) ys] ∧ (∀ u, u < n → H2 u = H u) ∧ OwnA H2 n xs ∧ OwnA H2 (n + 1) ys := by
  have ht : ThwL [rawtf b xs ys n] [.agg [.b b, tv n xs, tv (n + 1) ys]] ((bl n xs ++ (bl (n + 1) ys ++ [])) ++ []) := .agg (.b _ (thw_int hx (thw_int hy .nil))) .nil
  have hk : ∀ e ∈ (bl n xs ++ (bl (n + 1) ys ++ [])) ++ [], e.1 = n ∨ e.1 = n + 1 := by
    intro e he
    simp only [List.append_nil, List.mem_append] at he
    rcases he with he | he
    · exact .inl (bl_mem he).1
    · exact .inr (bl_mem he).1
  have nd : (List.map (fun e : Nat × List AV => e.1) ((bl n xs ++ (bl (n + 1) ys ++ [])) ++ [])).Nodup := by
    simp only [List.append_nil, List.map_append]
    rw [List.nodup_append]
    refine ⟨bl_keys, bl_keys, ?_⟩
    intro a ha b hb
    obtain ⟨e, he, rfl⟩ := List.mem_map.1 ha
    obtain ⟨e', he', rfl⟩ := List.mem_map.1 hb
    have h1 := (bl_mem he).1
    have h2 := (bl_mem he').1
    omega
  refine (PC.own_at h hv0 hv ht (fun e he => by have := hk e he; omega) nd).mono ?_
  rintro v H2 n2 ⟨rfl, rfl, rfl⟩
  refine ⟨rfl, rfl, fun u hu => joinH_lt hu, ?_, ?_⟩
  · by_cases e : xs = []
    · exact .inl e
    · right
      rw [joinH_ge (Nat.le_refl _)]
      exact heapOf_in (e := (n, xs.map (.i .i64))) nd (by simp only [List.append_nil, List.mem_append]; exact .inl (bl_in e))
  · by_cases e : ys = []
    · exact .inl e
    · right
      rw [joinH_ge (by omega)]
      exact heapOf_in (e := (n + 1, ys.map (.i .i64))) nd (by simp only [List.append_nil, List.mem_append]; exact .inr (bl_in e))
end Go.Am
/-! The law of absolute values. -/
namespace Go.Am
set_option linter.unusedVariables false
set_option linter.unusedSimpArgs false
set_option maxRecDepth 10000
set_option maxHeartbeats 4000000
def c_laws_FnExactAbsoluteOf (n_laws_szRat : Nat) (n_laws_toRat : Nat) (n_spec_AbsoluteOf : Nat) (n_impl_AbsoluteOf : Nat) (n_laws_eqRat : Nat) (n_laws_markRat : Nat) (n_laws_heldRat : Nat) : AF := ⟨69, .seq (.ops [⟨(some 1), .box (.t 0), none, []⟩,
   ⟨(some 2), .mv (.c (.b false)), none, []⟩])
  (.seq (.ops [⟨(some 3), .mv (.c (.i .i64 1048576)), none, []⟩])
  (.seq (.ops [⟨(some 11), .ld (some 3) (.t 1), none, []⟩,
   ⟨(some 12), .mv (.t 3), none, []⟩,
   ⟨(some 13), .call true n_laws_szRat [(.t 11), (.t 12)], none, []⟩,
   ⟨(some 3), .mv (.t 13), none, []⟩])
  (.seq (.seq (.ops [⟨(some 14), .mv (.t 3), none, []⟩,
   ⟨(some 15), .bin .lss (.t 14) (.c (.i .i64 0)), none, []⟩])
  (.cond (.t 15)
  (.seq (.ops [⟨(some 2), .mv (.c (.b true)), none, []⟩])
   (.ret))
  (.skip)))
  (.seq (.ops [⟨(some 16), .ld (some 3) (.t 1), none, []⟩,
   ⟨(some 17), .call true n_laws_toRat [(.t 16)], none, []⟩,
   ⟨(some 18), .call true n_spec_AbsoluteOf [(.t 17)], none, []⟩,
   ⟨(some 4), .new (.agg [(.b false), .nl, .nl]), none, []⟩,
   ⟨none, .st (some 3) (.t 4) (.t 18), none, []⟩])
  (.seq (.ops [⟨(some 19), .ld (some 3) (.t 1), none, []⟩,
   ⟨(some 20), .call true n_laws_toRat [(.t 19)], none, []⟩,
   ⟨(some 5), .new (.agg [(.b false), .nl, .nl]), none, []⟩,
   ⟨none, .st (some 3) (.t 5) (.t 20), none, []⟩])
  (.seq (.ops [⟨(some 21), .ld (some 3) (.t 5), none, []⟩,
   ⟨(some 22), .call true n_impl_AbsoluteOf [(.t 21)], none, []⟩,
   ⟨(some 6), .new (.agg [(.b false), .nl, .nl]), none, []⟩,
   ⟨none, .st (some 3) (.t 6) (.t 22), none, []⟩])
  (.seq (.seq (.ops [⟨(some 23), .ld (some 3) (.t 6), none, []⟩,
   ⟨(some 24), .ld (some 3) (.t 4), none, []⟩,
   ⟨(some 25), .call true n_laws_eqRat [(.t 23), (.t 24)], none, []⟩,
   ⟨(some 26), .not (.t 25), none, []⟩])
  (.cond (.t 26)
  (.seq (.ops [⟨(some 2), .mv (.c (.b false)), none, []⟩])
   (.ret))
  (.skip)))
  (.seq (.seq (.opsd [(0, ⟨(some 27), .ld (some 3) (.t 5), none, []⟩),
   (1, ⟨(some 28), .ld (some 3) (.t 1), none, []⟩),
   (2, ⟨(some 29), .call false n_laws_toRat [(.t 28)], none, []⟩),
   (3, ⟨(some 30), .call false n_laws_eqRat [(.t 27), (.t 29)], none, []⟩),
   (4, ⟨(some 31), .not (.t 30), none, []⟩)])
  (.cond (.t 31)
  (.seq (.ops [⟨(some 2), .mv (.c (.b false)), none, []⟩])
   (.ret))
  (.skip)))
  (.seq (.ops [⟨(some 7), .mv (.c (.i .i64 1)), none, []⟩])
  (.seq (.ops [⟨(some 32), .ld (some 3) (.t 5), none, []⟩,
   ⟨(some 33), .mv (.t 7), none, []⟩,
   ⟨(some 34), .call true n_laws_markRat [(.t 32), (.t 33)], none, []⟩,
   ⟨(some 7), .mv (.t 34), none, []⟩])
  (.seq (.seq (.ops [⟨(some 35), .mv (.t 7), none, []⟩,
   ⟨(some 36), .bin .lss (.t 35) (.c (.i .i64 0)), none, []⟩,
   ⟨(some 37), .mv (.t 36), none, []⟩,
   ⟨(some 38), .ld (some 3) (.t 6), some (37, false), []⟩,
   ⟨(some 39), .ld (some 3) (.t 4), some (37, false), []⟩,
   ⟨(some 40), .call true n_laws_eqRat [(.t 38), (.t 39)], some (37, false), []⟩,
   ⟨(some 41), .not (.t 40), some (37, false), []⟩,
   ⟨(some 42), .pick (.t 37) (.c (.b true)) (.t 41), none, []⟩])
  (.cond (.t 42)
  (.seq (.ops [⟨(some 2), .mv (.c (.b false)), none, []⟩])
   (.ret))
  (.skip)))
  (.seq (.ops [⟨(some 8), .mv (.c (.i .i64 1)), none, []⟩])
  (.seq (.ops [⟨(some 43), .ld (some 3) (.t 6), none, []⟩,
   ⟨(some 44), .mv (.t 8), none, []⟩,
   ⟨(some 45), .call true n_laws_markRat [(.t 43), (.t 44)], none, []⟩,
   ⟨(some 8), .mv (.t 45), none, []⟩])
  (.seq (.ops [⟨(some 9), .mv (.c (.i .i64 1)), none, []⟩])
  (.seq (.ops [⟨(some 46), .ld (some 3) (.t 6), none, []⟩,
   ⟨(some 47), .mv (.t 9), none, []⟩,
   ⟨(some 48), .call true n_laws_heldRat [(.t 46), (.t 47)], none, []⟩,
   ⟨(some 9), .mv (.t 48), none, []⟩])
  (.seq (.seq (.ops [⟨(some 49), .mv (.t 9), none, []⟩,
   ⟨(some 50), .bin .lss (.t 49) (.c (.i .i64 0)), none, []⟩])
  (.cond (.t 50)
  (.seq (.ops [⟨(some 2), .mv (.c (.b false)), none, []⟩])
   (.ret))
  (.skip)))
  (.seq (.seq (.ops [⟨(some 51), .mv (.t 9), none, []⟩,
   ⟨(some 52), .mv (.t 8), none, []⟩,
   ⟨(some 53), .bin .neq (.t 51) (.t 52), none, []⟩])
  (.cond (.t 53)
  (.seq (.ops [⟨(some 2), .mv (.c (.b false)), none, []⟩])
   (.ret))
  (.skip)))
  (.seq (.ops [⟨(some 54), .ld (some 3) (.t 1), none, []⟩,
   ⟨(some 55), .call true n_laws_toRat [(.t 54)], none, []⟩,
   ⟨(some 56), .call true n_impl_AbsoluteOf [(.t 55)], none, []⟩,
   ⟨(some 10), .new (.agg [(.b false), .nl, .nl]), none, []⟩,
   ⟨none, .st (some 3) (.t 10) (.t 56), none, []⟩])
  (.seq (.seq (.ops [⟨(some 57), .ld (some 3) (.t 10), none, []⟩,
   ⟨(some 58), .ld (some 3) (.t 4), none, []⟩,
   ⟨(some 59), .call true n_laws_eqRat [(.t 57), (.t 58)], none, []⟩,
   ⟨(some 60), .not (.t 59), none, []⟩])
  (.cond (.t 60)
  (.seq (.ops [⟨(some 2), .mv (.c (.b false)), none, []⟩])
   (.ret))
  (.skip)))
  (.seq (.ops [⟨(some 9), .mv (.c (.i .i64 1)), none, []⟩])
  (.seq (.ops [⟨(some 61), .ld (some 3) (.t 6), none, []⟩,
   ⟨(some 62), .mv (.t 9), none, []⟩,
   ⟨(some 63), .call true n_laws_heldRat [(.t 61), (.t 62)], none, []⟩,
   ⟨(some 9), .mv (.t 63), none, []⟩])
  (.seq (.seq (.ops [⟨(some 64), .mv (.t 9), none, []⟩,
   ⟨(some 65), .bin .lss (.t 64) (.c (.i .i64 0)), none, []⟩])
  (.cond (.t 65)
  (.seq (.ops [⟨(some 2), .mv (.c (.b false)), none, []⟩])
   (.ret))
  (.skip)))
  (.seq (.seq (.ops [⟨(some 66), .mv (.t 9), none, []⟩,
   ⟨(some 67), .mv (.t 8), none, []⟩,
   ⟨(some 68), .bin .neq (.t 66) (.t 67), none, []⟩])
  (.cond (.t 68)
  (.seq (.ops [⟨(some 2), .mv (.c (.b false)), none, []⟩])
   (.ret))
  (.skip)))
  (.seq (.ops [⟨(some 2), .mv (.c (.b true)), none, []⟩])
  (.ret))))))))))))))))))))))))), [.t 2]⟩
def K_laws_FnExactAbsoluteOf (P : Program) (f : Nat) : Prop := ∀ (b : Bool) (xs ys : List Int), xs.length < 9223372036854775808 → ys.length < 9223372036854775808 → SC P f [rawq b xs ys] (.b true)
theorem t_laws_FnExactAbsoluteOf {P : Program} {f n_laws_szRat n_laws_toRat n_spec_AbsoluteOf n_impl_AbsoluteOf n_laws_eqRat n_laws_markRat n_laws_heldRat : Nat} (h : Has P f (c_laws_FnExactAbsoluteOf n_laws_szRat n_laws_toRat n_spec_AbsoluteOf n_impl_AbsoluteOf n_laws_eqRat n_laws_markRat n_laws_heldRat)) (k_laws_szRat : K_laws_szRat P n_laws_szRat) (k_laws_toRat : K_laws_toRat P n_laws_toRat) (k_spec_AbsoluteOf : K_spec_AbsoluteOf P n_spec_AbsoluteOf) (k_impl_AbsoluteOf : K_impl_AbsoluteOf P n_impl_AbsoluteOf) (k_laws_eqRat : K_laws_eqRat P n_laws_eqRat) (k_laws_markRat : K_laws_markRat P n_laws_markRat) (k_laws_heldRat : K_laws_heldRat P n_laws_heldRat) : K_laws_FnExactAbsoluteOf P f := by
  intro b xs ys hx hy
  refine sc_go h (by simp) ?_
  simp -implicitDefEqProofs (disch := omega) only [↓walk, plain, List.length_map, List.getElem?_map, Option.map_some, Nat.reduceBEq, decT, decF, iteT, iteF, wrap_ok, Int.reduceToNat, Int.reduceLE, Int.reduceLT, Int.reduceAdd, Int.reduceSub, Int.reduceNeg, reduceIte, Nat.reduceEqDiff, Nat.reduceAdd, Nat.reduceSub, Nat.reduceMul, Nat.reduceLeDiff, Nat.reduceShiftRight, Nat.reduceMod, reduceCtorEq, rawq, ints]
  refine goCall_sc (k_laws_szRat b xs ys 1048576 hx hy (by omega) (by omega)) (by repeat (first | exact vws_nil | refine vws_cons ?_ ?_ | exact vw_bb | exact vw_ii | exact vw_ss | exact vw_ints | exact vw_ints0 | exact vw_nn | exact vw_n0 | exact vw_bt | exact vw_qt | exact vw_bnat | exact vw_raw | exact vwl_nil | refine vwl_cons ?_ ?_ | refine vw_agg ?_ | refine vw_fn ?_ | assumption)) ?_
  by_cases hz : szQ xs ys 1048576 < 0
  · simp -implicitDefEqProofs (disch := omega) only [↓walk, plain, List.length_map, List.getElem?_map, Option.map_some, Nat.reduceBEq, decT, decF, iteT, iteF, wrap_ok, Int.reduceToNat, Int.reduceLE, Int.reduceLT, Int.reduceAdd, Int.reduceSub, Int.reduceNeg, reduceIte, Nat.reduceEqDiff, Nat.reduceAdd, Nat.reduceSub, Nat.reduceMul, Nat.reduceLeDiff, Nat.reduceShiftRight, Nat.reduceMod, reduceCtorEq]
    exact data_b rfl
  have hsz := szQ_le hz
  have lx : xs.length ≤ 1048576 := by omega
  have ly : ys.length ≤ 1048576 := by omega
  simp -implicitDefEqProofs (disch := omega) only [↓walk, plain, List.length_map, List.getElem?_map, Option.map_some, Nat.reduceBEq, decT, decF, iteT, iteF, wrap_ok, Int.reduceToNat, Int.reduceLE, Int.reduceLT, Int.reduceAdd, Int.reduceSub, Int.reduceNeg, reduceIte, Nat.reduceEqDiff, Nat.reduceAdd, Nat.reduceSub, Nat.reduceMul, Nat.reduceLeDiff, Nat.reduceShiftRight, Nat.reduceMod, reduceCtorEq]
  refine goCall_fc (k_laws_toRat b xs ys lx ly) (by repeat (first | exact vws_nil | refine vws_cons ?_ ?_ | exact vw_bb | exact vw_ii | exact vw_ss | exact vw_ints | exact vw_ints0 | exact vw_nn | exact vw_n0 | exact vw_bt | exact vw_qt | exact vw_bnat | exact vw_raw | exact vwl_nil | refine vwl_cons ?_ ?_ | refine vw_agg ?_ | refine vw_fn ?_ | assumption)) ?_
  simp -implicitDefEqProofs (disch := omega) only [↓walk, plain, List.length_map, List.getElem?_map, Option.map_some, Nat.reduceBEq, decT, decF, iteT, iteF, wrap_ok, Int.reduceToNat, Int.reduceLE, Int.reduceLT, Int.reduceAdd, Int.reduceSub, Int.reduceNeg, reduceIte, Nat.reduceEqDiff, Nat.reduceAdd, Nat.reduceSub, Nat.reduceMul, Nat.reduceLeDiff, Nat.reduceShiftRight, Nat.reduceMod, reduceCtorEq, rawtf, rawt]
  refine goCall_qc (k_spec_AbsoluteOf b xs ys hx hy) (by repeat (first | exact vws_nil | refine vws_cons ?_ ?_ | exact vw_bb | exact vw_ii | exact vw_ss | exact vw_ints | exact vw_ints0 | exact vw_nn | exact vw_n0 | exact vw_bt | exact vw_qt | exact vw_bnat | exact vw_raw | exact vwl_nil | refine vwl_cons ?_ ?_ | refine vw_agg ?_ | refine vw_fn ?_ | assumption)) ?_
  have k_impl_AbsoluteOf' : ∀ (b : Bool) (xs ys : List Int), xs.length < 9223372036854775808 → ys.length < 9223372036854775808 → PC P n_impl_AbsoluteOf [rawq b xs ys] (rawtf (fq b xs ys).abs.sg (fq b xs ys).abs.nm (fq b xs ys).abs.dn) 2 False := k_impl_AbsoluteOf
  have k_impl := k_impl_AbsoluteOf' b xs ys hx hy
  generalize hp : (fq b xs ys).abs = p at *
  simp -implicitDefEqProofs (disch := omega) only [↓walk, plain, List.length_map, List.getElem?_map, Option.map_some, Nat.reduceBEq, decT, decF, iteT, iteF, wrap_ok, Int.reduceToNat, Int.reduceLE, Int.reduceLT, Int.reduceAdd, Int.reduceSub, Int.reduceNeg, reduceIte, Nat.reduceEqDiff, Nat.reduceAdd, Nat.reduceSub, Nat.reduceMul, Nat.reduceLeDiff, Nat.reduceShiftRight, Nat.reduceMod, reduceCtorEq, qt]
  refine goCall_mc0 (own_raw (k_laws_toRat b xs ys lx ly) (by repeat (first | exact vws_nil | refine vws_cons ?_ ?_ | exact vw_bb | exact vw_ii | exact vw_ss | exact vw_ints | exact vw_ints0 | exact vw_nn | exact vw_n0 | exact vw_bt | exact vw_qt | exact vw_bnat | exact vw_raw | exact vwl_nil | refine vwl_cons ?_ ?_ | refine vw_agg ?_ | refine vw_fn ?_ | assumption)) (by repeat (first | exact vws_nil | refine vws_cons ?_ ?_ | exact vw_bb | exact vw_ii | exact vw_ss | exact vw_ints | exact vw_ints0 | exact vw_nn | exact vw_n0 | exact vw_bt | exact vw_qt | exact vw_bnat | exact vw_raw | exact vwl_nil | refine vwl_cons ?_ ?_ | refine vw_agg ?_ | refine vw_fn ?_ | assumption)) lx ly) ?_
  rintro v H1 n1 ⟨rfl, rfl, hH1, hA, hB⟩
  simp -implicitDefEqProofs (disch := omega) only [↓walk, plain, List.length_map, List.getElem?_map, Option.map_some, Nat.reduceBEq, decT, decF, iteT, iteF, wrap_ok, Int.reduceToNat, Int.reduceLE, Int.reduceLT, Int.reduceAdd, Int.reduceSub, Int.reduceNeg, reduceIte, Nat.reduceEqDiff, Nat.reduceAdd, Nat.reduceSub, Nat.reduceMul, Nat.reduceLeDiff, Nat.reduceShiftRight, Nat.reduceMod, reduceCtorEq, hH1, tv_ok, bb]
  have l1 := p.nlen
  have l2 := p.dlen
  rw [← FQ.nm_eq] at l1
  rw [← FQ.dn_eq] at l2
  refine goCall_mc0 (own_raw (b := p.sg) (xs := p.nm) (ys := p.dn) k_impl (by repeat (first | exact vws_nil | refine vws_cons ?_ ?_ | exact vw_bb | exact vw_ii | exact vw_ss | exact vw_ints | exact vw_ints0 | exact vw_nn | exact vw_n0 | exact vw_bt | exact vw_qt | exact vw_bnat | exact vw_raw | exact vwl_nil | refine vwl_cons ?_ ?_ | refine vw_agg ?_ | refine vw_fn ?_ | assumption)) (vws_cons (vw_rawtv (hA.keep (by simp -implicitDefEqProofs (disch := omega) only [↓walk, plain, List.length_map, List.getElem?_map, Option.map_some, Nat.reduceBEq, decT, decF, iteT, iteF, wrap_ok, Int.reduceToNat, Int.reduceLE, Int.reduceLT, Int.reduceAdd, Int.reduceSub, Int.reduceNeg, reduceIte, Nat.reduceEqDiff, Nat.reduceAdd, Nat.reduceSub, Nat.reduceMul, Nat.reduceLeDiff, Nat.reduceShiftRight, Nat.reduceMod, reduceCtorEq])) (hB.keep (by simp -implicitDefEqProofs (disch := omega) only [↓walk, plain, List.length_map, List.getElem?_map, Option.map_some, Nat.reduceBEq, decT, decF, iteT, iteF, wrap_ok, Int.reduceToNat, Int.reduceLE, Int.reduceLT, Int.reduceAdd, Int.reduceSub, Int.reduceNeg, reduceIte, Nat.reduceEqDiff, Nat.reduceAdd, Nat.reduceSub, Nat.reduceMul, Nat.reduceLeDiff, Nat.reduceShiftRight, Nat.reduceMod, reduceCtorEq]))) vws_nil) (by omega) (by omega)) ?_
  rintro v H2 n2 ⟨rfl, rfl, hH2, hC, hD⟩
  simp -implicitDefEqProofs (disch := omega) only [↓walk, plain, List.length_map, List.getElem?_map, Option.map_some, Nat.reduceBEq, decT, decF, iteT, iteF, wrap_ok, Int.reduceToNat, Int.reduceLE, Int.reduceLT, Int.reduceAdd, Int.reduceSub, Int.reduceNeg, reduceIte, Nat.reduceEqDiff, Nat.reduceAdd, Nat.reduceSub, Nat.reduceMul, Nat.reduceLeDiff, Nat.reduceShiftRight, Nat.reduceMod, reduceCtorEq, hH2, hH1, tv_ok, bb]
  have eP : (p.sg == p.sg) = true := by simp
  have eA : (b == b) = true := by simp
  refine goCall_sc (k_laws_eqRat p.sg p.nm p.dn p.sg p.nm p.dn (by omega) (by omega) (by omega) (by omega)) (vws_cons (vw_rawtv (hC.keep (by simp -implicitDefEqProofs (disch := omega) only [↓walk, plain, List.length_map, List.getElem?_map, Option.map_some, Nat.reduceBEq, decT, decF, iteT, iteF, wrap_ok, Int.reduceToNat, Int.reduceLE, Int.reduceLT, Int.reduceAdd, Int.reduceSub, Int.reduceNeg, reduceIte, Nat.reduceEqDiff, Nat.reduceAdd, Nat.reduceSub, Nat.reduceMul, Nat.reduceLeDiff, Nat.reduceShiftRight, Nat.reduceMod, reduceCtorEq])) (hD.keep (by simp -implicitDefEqProofs (disch := omega) only [↓walk, plain, List.length_map, List.getElem?_map, Option.map_some, Nat.reduceBEq, decT, decF, iteT, iteF, wrap_ok, Int.reduceToNat, Int.reduceLE, Int.reduceLT, Int.reduceAdd, Int.reduceSub, Int.reduceNeg, reduceIte, Nat.reduceEqDiff, Nat.reduceAdd, Nat.reduceSub, Nat.reduceMul, Nat.reduceLeDiff, Nat.reduceShiftRight, Nat.reduceMod, reduceCtorEq]))) (vws_cons vw_raw vws_nil)) ?_
  simp -implicitDefEqProofs (disch := omega) only [↓walk, plain, List.length_map, List.getElem?_map, Option.map_some, Nat.reduceBEq, decT, decF, iteT, iteF, wrap_ok, Int.reduceToNat, Int.reduceLE, Int.reduceLT, Int.reduceAdd, Int.reduceSub, Int.reduceNeg, reduceIte, Nat.reduceEqDiff, Nat.reduceAdd, Nat.reduceSub, Nat.reduceMul, Nat.reduceLeDiff, Nat.reduceShiftRight, Nat.reduceMod, reduceCtorEq, hH2, hH1, tv_ok, bb, eP]
  refine goCall_fc (k_laws_toRat b xs ys lx ly) (by repeat (first | exact vws_nil | refine vws_cons ?_ ?_ | exact vw_bb | exact vw_ii | exact vw_ss | exact vw_ints | exact vw_ints0 | exact vw_nn | exact vw_n0 | exact vw_bt | exact vw_qt | exact vw_bnat | exact vw_raw | exact vwl_nil | refine vwl_cons ?_ ?_ | refine vw_agg ?_ | refine vw_fn ?_ | assumption)) ?_
  simp -implicitDefEqProofs (disch := omega) only [↓walk, plain, List.length_map, List.getElem?_map, Option.map_some, Nat.reduceBEq, decT, decF, iteT, iteF, wrap_ok, Int.reduceToNat, Int.reduceLE, Int.reduceLT, Int.reduceAdd, Int.reduceSub, Int.reduceNeg, reduceIte, Nat.reduceEqDiff, Nat.reduceAdd, Nat.reduceSub, Nat.reduceMul, Nat.reduceLeDiff, Nat.reduceShiftRight, Nat.reduceMod, reduceCtorEq, hH2, hH1, tv_ok, bb, rawtf, rawt]
  refine goCall_sc (k_laws_eqRat b xs ys b xs ys (by omega) (by omega) (by omega) (by omega)) (vws_cons (vw_rawtv (hA.keep (by simp -implicitDefEqProofs (disch := omega) only [↓walk, plain, List.length_map, List.getElem?_map, Option.map_some, Nat.reduceBEq, decT, decF, iteT, iteF, wrap_ok, Int.reduceToNat, Int.reduceLE, Int.reduceLT, Int.reduceAdd, Int.reduceSub, Int.reduceNeg, reduceIte, Nat.reduceEqDiff, Nat.reduceAdd, Nat.reduceSub, Nat.reduceMul, Nat.reduceLeDiff, Nat.reduceShiftRight, Nat.reduceMod, reduceCtorEq, hH2])) (hB.keep (by simp -implicitDefEqProofs (disch := omega) only [↓walk, plain, List.length_map, List.getElem?_map, Option.map_some, Nat.reduceBEq, decT, decF, iteT, iteF, wrap_ok, Int.reduceToNat, Int.reduceLE, Int.reduceLT, Int.reduceAdd, Int.reduceSub, Int.reduceNeg, reduceIte, Nat.reduceEqDiff, Nat.reduceAdd, Nat.reduceSub, Nat.reduceMul, Nat.reduceLeDiff, Nat.reduceShiftRight, Nat.reduceMod, reduceCtorEq, hH2]))) (vws_cons vw_raw vws_nil)) ?_
  simp -implicitDefEqProofs (disch := omega) only [↓walk, plain, List.length_map, List.getElem?_map, Option.map_some, Nat.reduceBEq, decT, decF, iteT, iteF, wrap_ok, Int.reduceToNat, Int.reduceLE, Int.reduceLT, Int.reduceAdd, Int.reduceSub, Int.reduceNeg, reduceIte, Nat.reduceEqDiff, Nat.reduceAdd, Nat.reduceSub, Nat.reduceMul, Nat.reduceLeDiff, Nat.reduceShiftRight, Nat.reduceMod, reduceCtorEq, hH2, hH1, tv_ok, bb, eA]
  refine goCall_mc0 (k_laws_markRat _ _ 22 23 b xs ys 1 (by omega) (by omega) (by omega) (by omega) (by omega) (hA.keep (by simp -implicitDefEqProofs (disch := omega) only [↓walk, plain, List.length_map, List.getElem?_map, Option.map_some, Nat.reduceBEq, decT, decF, iteT, iteF, wrap_ok, Int.reduceToNat, Int.reduceLE, Int.reduceLT, Int.reduceAdd, Int.reduceSub, Int.reduceNeg, reduceIte, Nat.reduceEqDiff, Nat.reduceAdd, Nat.reduceSub, Nat.reduceMul, Nat.reduceLeDiff, Nat.reduceShiftRight, Nat.reduceMod, reduceCtorEq, hH2])) (hB.keep (by simp -implicitDefEqProofs (disch := omega) only [↓walk, plain, List.length_map, List.getElem?_map, Option.map_some, Nat.reduceBEq, decT, decF, iteT, iteF, wrap_ok, Int.reduceToNat, Int.reduceLE, Int.reduceLT, Int.reduceAdd, Int.reduceSub, Int.reduceNeg, reduceIte, Nat.reduceEqDiff, Nat.reduceAdd, Nat.reduceSub, Nat.reduceMul, Nat.reduceLeDiff, Nat.reduceShiftRight, Nat.reduceMod, reduceCtorEq, hH2]))) ?_
  rintro v H3 n3 ⟨hn3, rfl, hH3⟩
  have hM3 := mark_far hH3
  simp -implicitDefEqProofs (disch := omega) only [↓walk, plain, List.length_map, List.getElem?_map, Option.map_some, Nat.reduceBEq, decT, decF, iteT, iteF, wrap_ok, Int.reduceToNat, Int.reduceLE, Int.reduceLT, Int.reduceAdd, Int.reduceSub, Int.reduceNeg, reduceIte, Nat.reduceEqDiff, Nat.reduceAdd, Nat.reduceSub, Nat.reduceMul, Nat.reduceLeDiff, Nat.reduceShiftRight, Nat.reduceMod, reduceCtorEq, hM3, hH2, hH1, tv_ok, bb]
  refine goCall_sc (k_laws_eqRat p.sg p.nm p.dn p.sg p.nm p.dn (by omega) (by omega) (by omega) (by omega)) (vws_cons (vw_rawtv (hC.keep (by simp -implicitDefEqProofs (disch := omega) only [↓walk, plain, List.length_map, List.getElem?_map, Option.map_some, Nat.reduceBEq, decT, decF, iteT, iteF, wrap_ok, Int.reduceToNat, Int.reduceLE, Int.reduceLT, Int.reduceAdd, Int.reduceSub, Int.reduceNeg, reduceIte, Nat.reduceEqDiff, Nat.reduceAdd, Nat.reduceSub, Nat.reduceMul, Nat.reduceLeDiff, Nat.reduceShiftRight, Nat.reduceMod, reduceCtorEq, hM3])) (hD.keep (by simp -implicitDefEqProofs (disch := omega) only [↓walk, plain, List.length_map, List.getElem?_map, Option.map_some, Nat.reduceBEq, decT, decF, iteT, iteF, wrap_ok, Int.reduceToNat, Int.reduceLE, Int.reduceLT, Int.reduceAdd, Int.reduceSub, Int.reduceNeg, reduceIte, Nat.reduceEqDiff, Nat.reduceAdd, Nat.reduceSub, Nat.reduceMul, Nat.reduceLeDiff, Nat.reduceShiftRight, Nat.reduceMod, reduceCtorEq, hM3]))) (vws_cons vw_raw vws_nil)) ?_
  simp -implicitDefEqProofs (disch := omega) only [↓walk, plain, List.length_map, List.getElem?_map, Option.map_some, Nat.reduceBEq, decT, decF, iteT, iteF, wrap_ok, Int.reduceToNat, Int.reduceLE, Int.reduceLT, Int.reduceAdd, Int.reduceSub, Int.reduceNeg, reduceIte, Nat.reduceEqDiff, Nat.reduceAdd, Nat.reduceSub, Nat.reduceMul, Nat.reduceLeDiff, Nat.reduceShiftRight, Nat.reduceMod, reduceCtorEq, hM3, hH2, hH1, tv_ok, bb, eP]
  refine goCall_mc0 (k_laws_markRat _ _ 28 29 p.sg p.nm p.dn 1 (by omega) (by omega) (by omega) (by omega) (by omega) (hC.keep (by simp -implicitDefEqProofs (disch := omega) only [↓walk, plain, List.length_map, List.getElem?_map, Option.map_some, Nat.reduceBEq, decT, decF, iteT, iteF, wrap_ok, Int.reduceToNat, Int.reduceLE, Int.reduceLT, Int.reduceAdd, Int.reduceSub, Int.reduceNeg, reduceIte, Nat.reduceEqDiff, Nat.reduceAdd, Nat.reduceSub, Nat.reduceMul, Nat.reduceLeDiff, Nat.reduceShiftRight, Nat.reduceMod, reduceCtorEq, hM3])) (hD.keep (by simp -implicitDefEqProofs (disch := omega) only [↓walk, plain, List.length_map, List.getElem?_map, Option.map_some, Nat.reduceBEq, decT, decF, iteT, iteF, wrap_ok, Int.reduceToNat, Int.reduceLE, Int.reduceLT, Int.reduceAdd, Int.reduceSub, Int.reduceNeg, reduceIte, Nat.reduceEqDiff, Nat.reduceAdd, Nat.reduceSub, Nat.reduceMul, Nat.reduceLeDiff, Nat.reduceShiftRight, Nat.reduceMod, reduceCtorEq, hM3]))) ?_
  rintro v H4 n4 ⟨hn4, rfl, hH4⟩
  have hM4 := mark_far hH4
  have hE := mark_own1 hH4 (by omega) (by omega)
  have hF := mark_own2 hH4 (by omega)
  simp -implicitDefEqProofs (disch := omega) only [↓walk, plain, List.length_map, List.getElem?_map, Option.map_some, Nat.reduceBEq, decT, decF, iteT, iteF, wrap_ok, Int.reduceToNat, Int.reduceLE, Int.reduceLT, Int.reduceAdd, Int.reduceSub, Int.reduceNeg, reduceIte, Nat.reduceEqDiff, Nat.reduceAdd, Nat.reduceSub, Nat.reduceMul, Nat.reduceLeDiff, Nat.reduceShiftRight, Nat.reduceMod, reduceCtorEq, hM4, hM3, hH2, hH1, tv_ok, bb]
  refine goCall_sc (k_laws_heldRat p.sg p.nm.length p.dn.length 1 (by omega) (by omega)) (vws_cons (vw_marked hE hF) (vws_cons vw_ii vws_nil)) ?_
  simp -implicitDefEqProofs (disch := omega) only [↓walk, plain, List.length_map, List.getElem?_map, Option.map_some, Nat.reduceBEq, decT, decF, iteT, iteF, wrap_ok, Int.reduceToNat, Int.reduceLE, Int.reduceLT, Int.reduceAdd, Int.reduceSub, Int.reduceNeg, reduceIte, Nat.reduceEqDiff, Nat.reduceAdd, Nat.reduceSub, Nat.reduceMul, Nat.reduceLeDiff, Nat.reduceShiftRight, Nat.reduceMod, reduceCtorEq, hM4, hM3, hH2, hH1, tv_ok, bb]
  refine goCall_fc (k_laws_toRat b xs ys lx ly) (by repeat (first | exact vws_nil | refine vws_cons ?_ ?_ | exact vw_bb | exact vw_ii | exact vw_ss | exact vw_ints | exact vw_ints0 | exact vw_nn | exact vw_n0 | exact vw_bt | exact vw_qt | exact vw_bnat | exact vw_raw | exact vwl_nil | refine vwl_cons ?_ ?_ | refine vw_agg ?_ | refine vw_fn ?_ | assumption)) ?_
  simp -implicitDefEqProofs (disch := omega) only [↓walk, plain, List.length_map, List.getElem?_map, Option.map_some, Nat.reduceBEq, decT, decF, iteT, iteF, wrap_ok, Int.reduceToNat, Int.reduceLE, Int.reduceLT, Int.reduceAdd, Int.reduceSub, Int.reduceNeg, reduceIte, Nat.reduceEqDiff, Nat.reduceAdd, Nat.reduceSub, Nat.reduceMul, Nat.reduceLeDiff, Nat.reduceShiftRight, Nat.reduceMod, reduceCtorEq, hM4, hM3, hH2, hH1, tv_ok, bb, rawtf, rawt]
  refine goCall_fc k_impl (by repeat (first | exact vws_nil | refine vws_cons ?_ ?_ | exact vw_bb | exact vw_ii | exact vw_ss | exact vw_ints | exact vw_ints0 | exact vw_nn | exact vw_n0 | exact vw_bt | exact vw_qt | exact vw_bnat | exact vw_raw | exact vwl_nil | refine vwl_cons ?_ ?_ | refine vw_agg ?_ | refine vw_fn ?_ | assumption)) ?_
  simp -implicitDefEqProofs (disch := omega) only [↓walk, plain, List.length_map, List.getElem?_map, Option.map_some, Nat.reduceBEq, decT, decF, iteT, iteF, wrap_ok, Int.reduceToNat, Int.reduceLE, Int.reduceLT, Int.reduceAdd, Int.reduceSub, Int.reduceNeg, reduceIte, Nat.reduceEqDiff, Nat.reduceAdd, Nat.reduceSub, Nat.reduceMul, Nat.reduceLeDiff, Nat.reduceShiftRight, Nat.reduceMod, reduceCtorEq, hM4, hM3, hH2, hH1, tv_ok, bb, rawtf, rawt]
  refine goCall_sc (k_laws_eqRat p.sg p.nm p.dn p.sg p.nm p.dn (by omega) (by omega) (by omega) (by omega)) (by repeat (first | exact vws_nil | refine vws_cons ?_ ?_ | exact vw_bb | exact vw_ii | exact vw_ss | exact vw_ints | exact vw_ints0 | exact vw_nn | exact vw_n0 | exact vw_bt | exact vw_qt | exact vw_bnat | exact vw_raw | exact vwl_nil | refine vwl_cons ?_ ?_ | refine vw_agg ?_ | refine vw_fn ?_ | assumption)) ?_
  simp -implicitDefEqProofs (disch := omega) only [↓walk, plain, List.length_map, List.getElem?_map, Option.map_some, Nat.reduceBEq, decT, decF, iteT, iteF, wrap_ok, Int.reduceToNat, Int.reduceLE, Int.reduceLT, Int.reduceAdd, Int.reduceSub, Int.reduceNeg, reduceIte, Nat.reduceEqDiff, Nat.reduceAdd, Nat.reduceSub, Nat.reduceMul, Nat.reduceLeDiff, Nat.reduceShiftRight, Nat.reduceMod, reduceCtorEq, hM4, hM3, hH2, hH1, tv_ok, bb, eP]
  refine goCall_sc (k_laws_heldRat p.sg p.nm.length p.dn.length 1 (by omega) (by omega)) (vws_cons (vw_marked (hE.keep (by simp -implicitDefEqProofs (disch := omega) only [↓walk, plain, List.length_map, List.getElem?_map, Option.map_some, Nat.reduceBEq, decT, decF, iteT, iteF, wrap_ok, Int.reduceToNat, Int.reduceLE, Int.reduceLT, Int.reduceAdd, Int.reduceSub, Int.reduceNeg, reduceIte, Nat.reduceEqDiff, Nat.reduceAdd, Nat.reduceSub, Nat.reduceMul, Nat.reduceLeDiff, Nat.reduceShiftRight, Nat.reduceMod, reduceCtorEq])) (hF.keep (by simp -implicitDefEqProofs (disch := omega) only [↓walk, plain, List.length_map, List.getElem?_map, Option.map_some, Nat.reduceBEq, decT, decF, iteT, iteF, wrap_ok, Int.reduceToNat, Int.reduceLE, Int.reduceLT, Int.reduceAdd, Int.reduceSub, Int.reduceNeg, reduceIte, Nat.reduceEqDiff, Nat.reduceAdd, Nat.reduceSub, Nat.reduceMul, Nat.reduceLeDiff, Nat.reduceShiftRight, Nat.reduceMod, reduceCtorEq]))) (vws_cons vw_ii vws_nil)) ?_
  simp -implicitDefEqProofs (disch := omega) only [↓walk, plain, List.length_map, List.getElem?_map, Option.map_some, Nat.reduceBEq, decT, decF, iteT, iteF, wrap_ok, Int.reduceToNat, Int.reduceLE, Int.reduceLT, Int.reduceAdd, Int.reduceSub, Int.reduceNeg, reduceIte, Nat.reduceEqDiff, Nat.reduceAdd, Nat.reduceSub, Nat.reduceMul, Nat.reduceLeDiff, Nat.reduceShiftRight, Nat.reduceMod, reduceCtorEq, hM4, hM3, hH2, hH1, tv_ok, bb]
  exact data_b rfl
end Go.Am
