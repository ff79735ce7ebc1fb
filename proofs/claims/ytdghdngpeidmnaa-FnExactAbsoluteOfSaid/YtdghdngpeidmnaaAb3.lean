/-
  A part of the proof that the law FnExactAbsoluteOf holds for every input: walks through the functions. No conditions.
-/
import Derived.Test.YtdghdngpeidmnaaAb2
set_option linter.unusedVariables false
set_option linter.unusedSimpArgs false
/-! Walks: differences, products, division by one limb. -/
namespace Go.Am
set_option linter.unusedVariables false
set_option linter.unusedSimpArgs false
set_option maxRecDepth 10000
set_option maxHeartbeats 4000000
theorem take_set {xs : List Int} {i : Nat} {a : Int} (h : i < xs.length) : (xs.set i a).take (i + 1) = xs.take i ++ [a] := by
  rw [List.take_set, List.take_add_one, List.getElem?_eq_getElem h]
  simp only [Option.toList_some]
  rw [List.set_append_right _ _ (by simp; omega)]
  simp [show i - min i xs.length = 0 by omega]
theorem drop_set {xs : List Int} {i : Nat} {a : Int} : (xs.set i a).drop (i + 1) = xs.drop (i + 1) := by
  rw [List.drop_set]; simp
theorem sub_step {os xs ys : List Int} {i : Nat} {c a b s : Int} (h : i < os.length) (hv : val (os.take i) = val (xs.take i) - val (ys.take i) + c * pw i) (ha : xs[i]? = some a) (hb : val (ys.take (i + 1)) = val (ys.take i) + pw i * b) (c' : Int) (hs : s = a - c - b + 1000000000 * c') :
    val ((os.set i s).take (i + 1)) = val (xs.take (i + 1)) - val (ys.take (i + 1)) + c' * pw (i + 1) := by
  rw [take_set h, val_snoc, val_take ha, hb, hv, pw_succ, List.length_take, Nat.min_eq_left (by omega)]
  subst hs
  grind
/-- What a difference comes to. -/
theorem sub_end {os : List Int} {m n : Nat} {c : Int} {k : Nat} (hnm : n ≤ m) (hd : Dig os) (hc : c = 0 ∨ c = 1) (hv : val os = (m : Int) - n + c * pw os.length) (hk : k ≤ os.length) (ht : TrimAt os k) : os.take k = limbs (m - n) := by
  have := hd.lt
  have h0 : c = 0 := by
    rcases hc with h | h
    · exact h
    · subst h; omega
  subst h0
  exact trim_val hd (by omega) hk ht.1 ht.2
theorem takeI {xs : List Int} {k : Nat} (hk : k ≤ xs.length) {n n2 T : Nat} {H : Heap} (h1 : n ≤ T) (hH : H T = some (1, xs.map (.i .i64))) : OwnI n (.rf T 0 k) H (xs.take k) :=
  .inr ⟨T, _, h1, by rw [List.length_take, Nat.min_eq_left hk], hH, by rw [List.length_take, Nat.min_eq_left hk, List.map_take]⟩
theorem at_drop {xs ys : List Int} {i : Nat} (h : xs.drop i = ys.drop i) : xs[i]? = ys[i]? := by
  have := congrArg (fun l => l[0]?) h
  simpa using this
def c_impl_natSub (n_impl_copyInts : Nat) (n_impl_trim : Nat) : AF := ⟨43, .seq (.ops [⟨(some 4), .mv (.c .nl), none, []⟩])
  (.seq (.ops [⟨(some 9), .mv (.t 0), none, []⟩,
   ⟨(some 10), .call true n_impl_copyInts [(.t 9)], none, []⟩,
   ⟨(some 5), .mv (.t 10), none, []⟩])
  (.seq (.ops [⟨(some 6), .mv (.c (.i .i64 0)), none, []⟩])
  (.seq (.seq (.ops [⟨(some 11), .mv (.t 5), none, []⟩,
   ⟨(some 12), .len (.t 11), none, []⟩,
   ⟨(some 13), .mv (.c (.i .i64 0)), none, []⟩])
  (.block 0 (.loop (.seq (.ops [⟨(some 14), .bin .lss (.t 13) (.t 12), none, []⟩])
  (.seq (.cond (.t 14)
  (.skip)
  (.exit 0))
  (.seq (.block 1 (.seq (.ops [⟨(some 15), .mv (.t 13), none, []⟩,
   ⟨(some 7), .mv (.t 15), none, []⟩])
  (.seq (.ops [⟨(some 16), .mv (.t 5), none, []⟩,
   ⟨(some 17), .mv (.t 7), none, []⟩,
   ⟨(some 18), .iad 1 (.t 16) (.t 17), none, []⟩,
   ⟨(some 19), .ld none (.t 18), none, []⟩,
   ⟨(some 20), .mv (.t 6), none, []⟩,
   ⟨(some 21), .bin .sub (.t 19) (.t 20), none, []⟩,
   ⟨(some 8), .mv (.t 21), none, []⟩])
  (.seq (.seq (.ops [⟨(some 22), .mv (.t 7), none, []⟩,
   ⟨(some 23), .mv (.t 1), none, []⟩,
   ⟨(some 24), .len (.t 23), none, []⟩,
   ⟨(some 25), .bin .lss (.t 22) (.t 24), none, []⟩])
  (.cond (.t 25)
  (.ops [⟨(some 26), .mv (.t 8), none, []⟩,
    ⟨(some 27), .mv (.t 1), none, []⟩,
    ⟨(some 28), .mv (.t 7), none, []⟩,
    ⟨(some 29), .iad 1 (.t 27) (.t 28), none, []⟩,
    ⟨(some 30), .ld none (.t 29), none, []⟩,
    ⟨(some 31), .bin .sub (.t 26) (.t 30), none, []⟩,
    ⟨(some 8), .mv (.t 31), none, []⟩])
  (.skip)))
  (.seq (.ops [⟨(some 6), .mv (.c (.i .i64 0)), none, []⟩])
  (.seq (.seq (.ops [⟨(some 32), .mv (.t 8), none, []⟩,
   ⟨(some 33), .bin .lss (.t 32) (.c (.i .i64 0)), none, []⟩])
  (.cond (.t 33)
  (.seq (.ops [⟨(some 34), .mv (.t 8), none, []⟩,
    ⟨(some 35), .bin .add (.t 34) (.c (.i .i64 1000000000)), none, []⟩,
    ⟨(some 8), .mv (.t 35), none, []⟩])
   (.ops [⟨(some 6), .mv (.c (.i .i64 1)), none, []⟩]))
  (.skip)))
  (.ops [⟨(some 36), .mv (.t 5), none, []⟩,
   ⟨(some 37), .mv (.t 7), none, []⟩,
   ⟨(some 38), .mv (.t 8), none, []⟩,
   ⟨(some 39), .iad 1 (.t 36) (.t 37), none, []⟩,
   ⟨none, .st none (.t 39) (.t 38), none, []⟩])))))))
  (.ops [⟨(some 40), .bin .add (.t 13) (.c (.i .i64 1)), none, []⟩,
   ⟨(some 13), .mv (.t 40), none, []⟩])))))))
  (.seq (.ops [⟨(some 41), .mv (.t 5), none, []⟩,
   ⟨(some 42), .call true n_impl_trim [(.t 41)], none, []⟩,
   ⟨(some 4), .mv (.t 42), none, []⟩])
  (.ret))))), [.t 4]⟩
def K_impl_natSub (P : Program) (f : Nat) : Prop := ∀ m n : Nat, n ≤ m → (limbs m).length ≤ 4096 → (limbs n).length ≤ 4096 → OCI P f [ints (limbs m), ints (limbs n)] (limbs (m - n))
theorem t_impl_natSub {P : Program} {f n_impl_copyInts n_impl_trim : Nat} (h : Has P f (c_impl_natSub n_impl_copyInts n_impl_trim)) (k_impl_copyInts : K_impl_copyInts P n_impl_copyInts) (k_impl_trim : K_impl_trim P n_impl_trim) : K_impl_natSub P f := by
  intro m n hnm hm hn n0
  refine mc_go h (by simp) ?_
  simp -implicitDefEqProofs (disch := omega) only [↓walk, plain, List.length_map, List.getElem?_map, Option.map_some, Nat.reduceBEq, decT, decF, iteT, iteF, wrap_ok, Int.reduceToNat, Int.reduceLE, Int.reduceLT, Int.reduceAdd, Int.reduceSub, Int.reduceNeg, reduceIte, Nat.reduceEqDiff, Nat.reduceAdd, Nat.reduceSub, Nat.reduceMul, Nat.reduceLeDiff, Nat.reduceShiftRight, Nat.reduceMod, reduceCtorEq, ints]
  refine goCall_mc0 ((k_impl_copyInts (limbs m) (by omega)).at (by repeat (first | exact vws_nil | refine vws_cons ?_ ?_ | exact vw_bb | exact vw_ii | exact vw_ss | exact vw_ints | exact vw_ints0 | exact vw_nn | exact vw_n0 | exact vwl_nil | refine vwl_cons ?_ ?_ | refine vw_agg ?_ | refine vw_fn ?_ | assumption))) ?_
  rintro v H1 n1 ⟨hn1, ⟨-, hg⟩, hlt⟩
  rcases hg with ⟨he, rfl⟩ | ⟨T, hT, rfl, hHT⟩
  · have hm0 := limbs_nil.1 he
    have hn0 : n = 0 := by omega
    subst hm0; subst hn0
    simp -implicitDefEqProofs (disch := omega) only [↓walk, plain, List.length_map, List.getElem?_map, Option.map_some, Nat.reduceBEq, decT, decF, iteT, iteF, wrap_ok, Int.reduceToNat, Int.reduceLE, Int.reduceLT, Int.reduceAdd, Int.reduceSub, Int.reduceNeg, reduceIte, Nat.reduceEqDiff, Nat.reduceAdd, Nat.reduceSub, Nat.reduceMul, Nat.reduceLeDiff, Nat.reduceShiftRight, Nat.reduceMod, reduceCtorEq]
    refine go_loopm 2199023247808 (by first | rfl | (simp only [mods, modsL, modsD, optB]; rfl)) (fun k fr H n => fr 13 = .i .i64 0) 0 ?_ ?_
    · simp -implicitDefEqProofs (disch := omega) only [↓walk, plain, List.length_map, List.getElem?_map, Option.map_some, Nat.reduceBEq, decT, decF, iteT, iteF, wrap_ok, Int.reduceToNat, Int.reduceLE, Int.reduceLT, Int.reduceAdd, Int.reduceSub, Int.reduceNeg, reduceIte, Nat.reduceEqDiff, Nat.reduceAdd, Nat.reduceSub, Nat.reduceMul, Nat.reduceLeDiff, Nat.reduceShiftRight, Nat.reduceMod, reduceCtorEq]
    · rintro k fr H n f13
      simp -implicitDefEqProofs (disch := omega) only [↓walk, plain, List.length_map, List.getElem?_map, Option.map_some, Nat.reduceBEq, decT, decF, iteT, iteF, wrap_ok, Int.reduceToNat, Int.reduceLE, Int.reduceLT, Int.reduceAdd, Int.reduceSub, Int.reduceNeg, reduceIte, Nat.reduceEqDiff, Nat.reduceAdd, Nat.reduceSub, Nat.reduceMul, Nat.reduceLeDiff, Nat.reduceShiftRight, Nat.reduceMod, reduceCtorEq, f13]
      refine goCall_mc0 (k_impl_trim.2 _ _) ?_
      rintro v H2 n2 ⟨rfl, _, rfl⟩
      simp -implicitDefEqProofs (disch := omega) only [↓walk, plain, List.length_map, List.getElem?_map, Option.map_some, Nat.reduceBEq, decT, decF, iteT, iteF, wrap_ok, Int.reduceToNat, Int.reduceLE, Int.reduceLT, Int.reduceAdd, Int.reduceSub, Int.reduceNeg, reduceIte, Nat.reduceEqDiff, Nat.reduceAdd, Nat.reduceSub, Nat.reduceMul, Nat.reduceLeDiff, Nat.reduceShiftRight, Nat.reduceMod, reduceCtorEq]
      exact .inl ⟨limbs_zero, rfl⟩
  · have hT2 := hlt T 0 _ rfl
    have dm := limbs_dig m
    have dn := limbs_dig n
    simp -implicitDefEqProofs (disch := omega) only [↓walk, plain, List.length_map, List.getElem?_map, Option.map_some, Nat.reduceBEq, decT, decF, iteT, iteF, wrap_ok, Int.reduceToNat, Int.reduceLE, Int.reduceLT, Int.reduceAdd, Int.reduceSub, Int.reduceNeg, reduceIte, Nat.reduceEqDiff, Nat.reduceAdd, Nat.reduceSub, Nat.reduceMul, Nat.reduceLeDiff, Nat.reduceShiftRight, Nat.reduceMod, reduceCtorEq]
    refine go_loopm 2199023247808 (by first | rfl | (simp only [mods, modsL, modsD, optB]; rfl)) (fun k fr H n2 => ∃ (i : Nat) (os : List Int) (c : Int), i + k = (limbs m).length ∧ n1 ≤ n2 ∧ os.length = (limbs m).length ∧ H T = some (1, os.map (.i .i64)) ∧ fr 13 = .i .i64 i ∧ fr 6 = .i .i64 c ∧ (c = 0 ∨ c = 1) ∧ Dig os ∧ os.drop i = (limbs m).drop i ∧ val (os.take i) = val ((limbs m).take i) - val ((limbs n).take i) + c * pw i) (limbs m).length ?_ ?_
    · simp -implicitDefEqProofs (disch := omega) only [↓walk, plain, List.length_map, List.getElem?_map, Option.map_some, Nat.reduceBEq, decT, decF, iteT, iteF, wrap_ok, Int.reduceToNat, Int.reduceLE, Int.reduceLT, Int.reduceAdd, Int.reduceSub, Int.reduceNeg, reduceIte, Nat.reduceEqDiff, Nat.reduceAdd, Nat.reduceSub, Nat.reduceMul, Nat.reduceLeDiff, Nat.reduceShiftRight, Nat.reduceMod, reduceCtorEq]
      exact ⟨0, limbs m, 0, by omega, by omega, rfl, hHT, rfl, rfl, .inl rfl, dm, rfl, by simp [val]⟩
    · rintro k fr H n2 ⟨i, os, c, hk, hn2, hlen, hH, f13, f6, hc, hd, hdr, hv⟩
      simp -implicitDefEqProofs (disch := omega) only [↓walk, plain, List.length_map, List.getElem?_map, Option.map_some, Nat.reduceBEq, iteT, iteF, wrap_ok, Int.reduceToNat, Int.reduceLE, Int.reduceLT, Int.reduceAdd, Int.reduceSub, Int.reduceNeg, reduceIte, Nat.reduceEqDiff, Nat.reduceAdd, Nat.reduceSub, Nat.reduceMul, Nat.reduceLeDiff, Nat.reduceShiftRight, Nat.reduceMod, reduceCtorEq, f13]
      refine goC_dec (fun h0 => ?_) (fun h0 => ?_)
      · obtain ⟨a, ha⟩ := getc (xs := limbs m) (i := i) (by omega)
        have hao : os[i]? = some a := by rw [← ha]; exact at_drop hdr
        have da := dm.at ha
        simp -implicitDefEqProofs (disch := omega) only [↓walk, plain, List.length_map, List.getElem?_map, Option.map_some, Nat.reduceBEq, iteT, iteF, wrap_ok, Int.reduceToNat, Int.reduceLE, Int.reduceLT, Int.reduceAdd, Int.reduceSub, Int.reduceNeg, reduceIte, Nat.reduceEqDiff, Nat.reduceAdd, Nat.reduceSub, Nat.reduceMul, Nat.reduceLeDiff, Nat.reduceShiftRight, Nat.reduceMod, reduceCtorEq, f13, f6, hH, hao]
        refine goC_join 4227858688 (by first | rfl | (simp only [mods, modsL, modsD, optB]; rfl)) (fun fr3 H' n3 => ∃ b : Int, 0 ≤ b ∧ b < 1000000000 ∧ val ((limbs n).take (i + 1)) = val ((limbs n).take i) + pw i * b ∧ fr3 8 = .i .i64 (a - c - b) ∧ H' = H ∧ n2 ≤ n3) (fun h1 => ?_) (fun h1 => ?_) ?_
        · obtain ⟨b, hb⟩ := getc (xs := limbs n) (i := i) (by omega)
          have db := dn.at hb
          simp -implicitDefEqProofs (disch := omega) only [↓walk, plain, List.length_map, List.getElem?_map, Option.map_some, Nat.reduceBEq, decT, decF, iteT, iteF, wrap_ok, Int.reduceToNat, Int.reduceLE, Int.reduceLT, Int.reduceAdd, Int.reduceSub, Int.reduceNeg, reduceIte, Nat.reduceEqDiff, Nat.reduceAdd, Nat.reduceSub, Nat.reduceMul, Nat.reduceLeDiff, Nat.reduceShiftRight, Nat.reduceMod, reduceCtorEq, f13, f6, hb]
          exact ⟨b, by omega, by omega, val_take hb, rfl, by omega⟩
        · simp -implicitDefEqProofs (disch := omega) only [↓walk, plain, List.length_map, List.getElem?_map, Option.map_some, Nat.reduceBEq, decT, decF, iteT, iteF, wrap_ok, Int.reduceToNat, Int.reduceLE, Int.reduceLT, Int.reduceAdd, Int.reduceSub, Int.reduceNeg, reduceIte, Nat.reduceEqDiff, Nat.reduceAdd, Nat.reduceSub, Nat.reduceMul, Nat.reduceLeDiff, Nat.reduceShiftRight, Nat.reduceMod, reduceCtorEq]
          refine ⟨0, by omega, by omega, ?_, by rw [Int.sub_zero], by omega⟩
          rw [val_take_ge (by omega)]; simp
        · rintro fr3 H' n3 ⟨b, hb0, hb1, hb, f8, rfl, hn3⟩
          simp -implicitDefEqProofs (disch := omega) only [↓walk, plain, List.length_map, List.getElem?_map, Option.map_some, Nat.reduceBEq, iteT, iteF, wrap_ok, Int.reduceToNat, Int.reduceLE, Int.reduceLT, Int.reduceAdd, Int.reduceSub, Int.reduceNeg, reduceIte, Nat.reduceEqDiff, Nat.reduceAdd, Nat.reduceSub, Nat.reduceMul, Nat.reduceLeDiff, Nat.reduceShiftRight, Nat.reduceMod, reduceCtorEq, f8]
          refine goC_dec (fun h2 => ?_) (fun h2 => ?_)
          · have hset : (os.map (AV.i .i64)).set i (.i .i64 (a - c - b + 1000000000)) = (os.set i (a - c - b + 1000000000)).map (.i .i64) := by rw [List.map_set]
            simp -implicitDefEqProofs (disch := omega) only [↓walk, plain, List.length_map, List.getElem?_map, Option.map_some, Nat.reduceBEq, decT, decF, iteT, iteF, wrap_ok, Int.reduceToNat, Int.reduceLE, Int.reduceLT, Int.reduceAdd, Int.reduceSub, Int.reduceNeg, reduceIte, Nat.reduceEqDiff, Nat.reduceAdd, Nat.reduceSub, Nat.reduceMul, Nat.reduceLeDiff, Nat.reduceShiftRight, Nat.reduceMod, reduceCtorEq, f8, f13, hH, hao, hset]
            exact ⟨k - 1, by omega, i + 1, os.set i (a - c - b + 1000000000), 1, by omega, by omega, by simpa using hlen, rfl, rfl, rfl, .inr rfl, hd.set (by omega) (by omega), by rw [drop_set, ← List.drop_drop, hdr, List.drop_drop], sub_step (by omega) hv ha hb 1 (by omega)⟩
          · have hset : (os.map (AV.i .i64)).set i (.i .i64 (a - c - b)) = (os.set i (a - c - b)).map (.i .i64) := by rw [List.map_set]
            simp -implicitDefEqProofs (disch := omega) only [↓walk, plain, List.length_map, List.getElem?_map, Option.map_some, Nat.reduceBEq, decT, decF, iteT, iteF, wrap_ok, Int.reduceToNat, Int.reduceLE, Int.reduceLT, Int.reduceAdd, Int.reduceSub, Int.reduceNeg, reduceIte, Nat.reduceEqDiff, Nat.reduceAdd, Nat.reduceSub, Nat.reduceMul, Nat.reduceLeDiff, Nat.reduceShiftRight, Nat.reduceMod, reduceCtorEq, f8, f13, hH, hao, hset]
            exact ⟨k - 1, by omega, i + 1, os.set i (a - c - b), 0, by omega, by omega, by simpa using hlen, rfl, rfl, rfl, .inl rfl, hd.set (by omega) (by omega), by rw [drop_set, ← List.drop_drop, hdr, List.drop_drop], sub_step (by omega) hv ha hb 0 (by omega)⟩
      · simp -implicitDefEqProofs (disch := omega) only [↓walk, plain, List.length_map, List.getElem?_map, Option.map_some, Nat.reduceBEq, decT, decF, iteT, iteF, wrap_ok, Int.reduceToNat, Int.reduceLE, Int.reduceLT, Int.reduceAdd, Int.reduceSub, Int.reduceNeg, reduceIte, Nat.reduceEqDiff, Nat.reduceAdd, Nat.reduceSub, Nat.reduceMul, Nat.reduceLeDiff, Nat.reduceShiftRight, Nat.reduceMod, reduceCtorEq]
        rw [← hlen]
        refine goCall_mc0 (k_impl_trim.1 _ _ _ os (by omega) hH) ?_
        rintro v H2 n3 ⟨rfl, _, k2, hk2, rfl, ht⟩
        simp -implicitDefEqProofs (disch := omega) only [↓walk, plain, List.length_map, List.getElem?_map, Option.map_some, Nat.reduceBEq, decT, decF, iteT, iteF, wrap_ok, Int.reduceToNat, Int.reduceLE, Int.reduceLT, Int.reduceAdd, Int.reduceSub, Int.reduceNeg, reduceIte, Nat.reduceEqDiff, Nat.reduceAdd, Nat.reduceSub, Nat.reduceMul, Nat.reduceLeDiff, Nat.reduceShiftRight, Nat.reduceMod, reduceCtorEq]
        have hmn := limbs_len_mono hnm
        rw [take_all (by omega), take_all (by omega), take_all (by omega), val_limbs, val_limbs] at hv
        rw [← sub_end hnm hd hc (by rw [hv, show i = os.length by omega]) hk2 ht]
        exact takeI (n2 := n3) hk2 (by omega) hH
theorem mul_bound {a b : Int} (h1 : 0 ≤ a) (h2 : a < 1000000000) (h3 : 0 ≤ b) (h4 : b < 1000000000) : 0 ≤ a * b ∧ a * b ≤ 999999998000000001 := by
  refine ⟨Int.mul_nonneg h1 h3, ?_⟩
  have : a * b ≤ 999999999 * 999999999 := Int.mul_le_mul (by omega) (by omega) h3 (by omega)
  omega
/-- One step of a row of a product. -/
theorem mul_step {os ys : List Int} {i k : Nat} {o x y c s q V : Int} (hv : val os + c * pw (i + k) = V + x * pw i * val (ys.take k)) (ho : os[i + k]? = some o) (hy : ys[k]? = some y) (hs : s + 1000000000 * q = o + x * y + c) :
    val (os.set (i + k) s) + q * pw (i + (k + 1)) = V + x * pw i * val (ys.take (k + 1)) := by
  rw [val_set ho, val_take hy, show i + (k + 1) = (i + k) + 1 by omega, pw_succ]
  have e : pw (i + k) = pw i * pw k := pw_add i k
  have : s = o + x * y + c - 1000000000 * q := by omega
  subst this
  have e2 : val os = V + x * pw i * val (ys.take k) - c * pw (i + k) := by omega
  rw [e2, e]
  grind
theorem mul_lt {os xs ys : List Int} {i : Nat} (hx : Dig xs) (hy : Dig ys) (hi : i ≤ xs.length) (hv : val os = val (xs.take i) * val ys) : val os < pw (i + ys.length) := by
  rw [hv, pw_add]
  have h1 := (hx.take i).lt
  rw [List.length_take, Nat.min_eq_left hi] at h1
  have h2 := hy.lt
  have h3 := hy.nonneg
  have h4 := (hx.take i).nonneg
  have h5 := pw_pos i
  have h6 : val (xs.take i) * val ys ≤ (pw i - 1) * val ys := Int.mul_le_mul_of_nonneg_right (by omega) h3
  have h7 : (pw i - 1) * val ys ≤ (pw i - 1) * (pw ys.length) := Int.mul_le_mul_of_nonneg_left (by omega) (by omega)
  have h8 := pw_pos ys.length
  have h9 : (pw i - 1) * pw ys.length = pw i * pw ys.length - pw ys.length := by grind
  omega
/-- The end of a row. -/
theorem mul_row {os xs ys : List Int} {i : Nat} {x c o V : Int} (hV : V = val (xs.take i) * val ys) (hv : val os + c * pw (i + ys.length) = V + x * pw i * val ys) (ha : xs[i]? = some x) (ho : os[i + ys.length]? = some o) (s : Int) (hs : s = o + c) :
    val (os.set (i + ys.length) s) = val (xs.take (i + 1)) * val ys := by
  rw [val_set ho, val_take ha]
  subst hs; subst hV
  have e2 : val os = val (xs.take i) * val ys + x * pw i * val ys - c * pw (i + ys.length) := by omega
  rw [e2]
  grind
end Go.Am
/-! Walks: products. -/
namespace Go.Am
set_option linter.unusedVariables false
set_option linter.unusedSimpArgs false
set_option maxRecDepth 10000
set_option maxHeartbeats 4000000
theorem rep_map (n : Nat) : List.replicate n (AV.i .i64 0) = (List.replicate n (0 : Int)).map (.i .i64) := by simp
theorem qr {s : Int} (h : 0 ≤ s) : Int.tdiv s 1000000000 = s / 1000000000 ∧ Int.tmod s 1000000000 = s % 1000000000 := ⟨Int.tdiv_eq_ediv_of_nonneg h, Int.tmod_eq_emod_of_nonneg h⟩
def c_impl_natMul (n_impl_trim : Nat) : AF := ⟨67, .seq (.ops [⟨(some 4), .mv (.c .nl), none, []⟩])
  (.seq (.ops [⟨(some 12), .mv (.t 0), none, []⟩,
   ⟨(some 13), .len (.t 12), none, []⟩,
   ⟨(some 14), .mv (.t 1), none, []⟩,
   ⟨(some 15), .len (.t 14), none, []⟩,
   ⟨(some 16), .bin .add (.t 13) (.t 15), none, []⟩,
   ⟨(some 17), .mks (.i .i64 0) 8 (.t 16) (.t 16), none, []⟩,
   ⟨(some 5), .mv (.t 17), none, []⟩])
  (.seq (.seq (.ops [⟨(some 18), .mv (.t 0), none, []⟩,
   ⟨(some 19), .len (.t 18), none, []⟩,
   ⟨(some 20), .mv (.c (.i .i64 0)), none, []⟩])
  (.block 0 (.loop (.seq (.ops [⟨(some 21), .bin .lss (.t 20) (.t 19), none, []⟩])
  (.seq (.cond (.t 21)
  (.skip)
  (.exit 0))
  (.seq (.block 1 (.seq (.ops [⟨(some 22), .mv (.t 20), none, []⟩,
   ⟨(some 23), .iad 1 (.t 18) (.t 20), none, []⟩,
   ⟨(some 24), .ld none (.t 23), none, []⟩,
   ⟨(some 6), .mv (.t 22), none, []⟩,
   ⟨(some 7), .mv (.t 24), none, []⟩])
  (.seq (.ops [⟨(some 8), .mv (.c (.i .i64 0)), none, []⟩])
  (.seq (.seq (.ops [⟨(some 25), .mv (.t 1), none, []⟩,
   ⟨(some 26), .len (.t 25), none, []⟩,
   ⟨(some 27), .mv (.c (.i .i64 0)), none, []⟩])
  (.block 2 (.loop (.seq (.ops [⟨(some 28), .bin .lss (.t 27) (.t 26), none, []⟩])
  (.seq (.cond (.t 28)
  (.skip)
  (.exit 2))
  (.seq (.block 3 (.seq (.ops [⟨(some 29), .mv (.t 27), none, []⟩,
   ⟨(some 30), .iad 1 (.t 25) (.t 27), none, []⟩,
   ⟨(some 31), .ld none (.t 30), none, []⟩,
   ⟨(some 9), .mv (.t 29), none, []⟩,
   ⟨(some 10), .mv (.t 31), none, []⟩])
  (.seq (.ops [⟨(some 32), .mv (.t 5), none, []⟩,
   ⟨(some 33), .mv (.t 6), none, []⟩,
   ⟨(some 34), .mv (.t 9), none, []⟩,
   ⟨(some 35), .bin .add (.t 33) (.t 34), none, []⟩,
   ⟨(some 36), .iad 1 (.t 32) (.t 35), none, []⟩,
   ⟨(some 37), .ld none (.t 36), none, []⟩,
   ⟨(some 38), .mv (.t 7), none, []⟩,
   ⟨(some 39), .mv (.t 10), none, []⟩,
   ⟨(some 40), .bin .mul (.t 38) (.t 39), none, []⟩,
   ⟨(some 41), .bin .add (.t 37) (.t 40), none, []⟩,
   ⟨(some 42), .mv (.t 8), none, []⟩,
   ⟨(some 43), .bin .add (.t 41) (.t 42), none, []⟩,
   ⟨(some 11), .mv (.t 43), none, []⟩])
  (.seq (.ops [⟨(some 44), .mv (.t 5), none, []⟩,
   ⟨(some 45), .mv (.t 6), none, []⟩,
   ⟨(some 46), .mv (.t 9), none, []⟩,
   ⟨(some 47), .bin .add (.t 45) (.t 46), none, []⟩,
   ⟨(some 48), .mv (.t 11), none, []⟩,
   ⟨(some 49), .bin .rem (.t 48) (.c (.i .i64 1000000000)), none, []⟩,
   ⟨(some 50), .iad 1 (.t 44) (.t 47), none, []⟩,
   ⟨none, .st none (.t 50) (.t 49), none, []⟩])
  (.ops [⟨(some 51), .mv (.t 11), none, []⟩,
   ⟨(some 52), .bin .quo (.t 51) (.c (.i .i64 1000000000)), none, []⟩,
   ⟨(some 8), .mv (.t 52), none, []⟩])))))
  (.ops [⟨(some 53), .bin .add (.t 27) (.c (.i .i64 1)), none, []⟩,
   ⟨(some 27), .mv (.t 53), none, []⟩])))))))
  (.ops [⟨(some 54), .mv (.t 5), none, []⟩,
   ⟨(some 55), .mv (.t 6), none, []⟩,
   ⟨(some 56), .mv (.t 1), none, []⟩,
   ⟨(some 57), .len (.t 56), none, []⟩,
   ⟨(some 58), .bin .add (.t 55) (.t 57), none, []⟩,
   ⟨(some 59), .iad 1 (.t 54) (.t 58), none, []⟩,
   ⟨(some 60), .ld none (.t 59), none, []⟩,
   ⟨(some 61), .mv (.t 8), none, []⟩,
   ⟨(some 62), .bin .add (.t 60) (.t 61), none, []⟩,
   ⟨(some 63), .iad 1 (.t 54) (.t 58), none, []⟩,
   ⟨none, .st none (.t 63) (.t 62), none, []⟩])))))
  (.ops [⟨(some 64), .bin .add (.t 20) (.c (.i .i64 1)), none, []⟩,
   ⟨(some 20), .mv (.t 64), none, []⟩])))))))
  (.seq (.ops [⟨(some 65), .mv (.t 5), none, []⟩,
   ⟨(some 66), .call true n_impl_trim [(.t 65)], none, []⟩,
   ⟨(some 4), .mv (.t 66), none, []⟩])
  (.ret)))), [.t 4]⟩
def K_impl_natMul (P : Program) (f : Nat) : Prop := ∀ m n : Nat, (limbs m).length ≤ 4096 → (limbs n).length ≤ 4096 → OCI P f [ints (limbs m), ints (limbs n)] (limbs (m * n))
theorem t_impl_natMul {P : Program} {f n_impl_trim : Nat} (h : Has P f (c_impl_natMul n_impl_trim)) (k_impl_trim : K_impl_trim P n_impl_trim) : K_impl_natMul P f := by
  intro m n hm hn n0
  refine mc_go h (by simp) ?_
  have dm := limbs_dig m
  have dn := limbs_dig n
  have ez : (((limbs m).length : Int) + (limbs n).length).toNat = (limbs m).length + (limbs n).length := by omega
  simp -implicitDefEqProofs (disch := omega) only [↓walk, plain, List.length_map, List.getElem?_map, Option.map_some, Nat.reduceBEq, decT, decF, iteT, iteF, wrap_ok, Int.reduceToNat, Int.reduceLE, Int.reduceLT, Int.reduceAdd, Int.reduceSub, Int.reduceNeg, reduceIte, Nat.reduceEqDiff, Nat.reduceAdd, Nat.reduceSub, Nat.reduceMul, Nat.reduceLeDiff, Nat.reduceShiftRight, Nat.reduceMod, reduceCtorEq, ints, ez, rep_map, maxB]
  refine go_loopm 36893488147418058688 (by first | rfl | (simp only [mods, modsL, modsD, optB]; rfl)) (fun K fr H n2 => ∃ (i : Nat) (os : List Int), i + K = (limbs m).length ∧ n0 ≤ n2 ∧ os.length = (limbs m).length + (limbs n).length ∧ H (n0 + 1 + 1 + 1 + 1 + 1 + 1) = some (1, os.map (.i .i64)) ∧ fr 20 = .i .i64 i ∧ Dig os ∧ val os = val ((limbs m).take i) * val (limbs n)) (limbs m).length ?_ ?_
  · simp -implicitDefEqProofs (disch := omega) only [↓walk, plain, List.length_map, List.getElem?_map, Option.map_some, Nat.reduceBEq, decT, decF, iteT, iteF, wrap_ok, Int.reduceToNat, Int.reduceLE, Int.reduceLT, Int.reduceAdd, Int.reduceSub, Int.reduceNeg, reduceIte, Nat.reduceEqDiff, Nat.reduceAdd, Nat.reduceSub, Nat.reduceMul, Nat.reduceLeDiff, Nat.reduceShiftRight, Nat.reduceMod, reduceCtorEq]
    exact ⟨0, _, by omega, by omega, by simp, rfl, rfl, Dig.replicate _, by rw [val_replicate]; simp [val]⟩
  · rintro K fr H n2 ⟨i, os, hK, hn2, hlen, hH, f20, hd, hv⟩
    simp -implicitDefEqProofs (disch := omega) only [↓walk, plain, List.length_map, List.getElem?_map, Option.map_some, Nat.reduceBEq, iteT, iteF, wrap_ok, Int.reduceToNat, Int.reduceLE, Int.reduceLT, Int.reduceAdd, Int.reduceSub, Int.reduceNeg, reduceIte, Nat.reduceEqDiff, Nat.reduceAdd, Nat.reduceSub, Nat.reduceMul, Nat.reduceLeDiff, Nat.reduceShiftRight, Nat.reduceMod, reduceCtorEq, f20]
    refine goC_dec (fun h0 => ?_) (fun h0 => ?_)
    · obtain ⟨x, hx⟩ := getc (xs := limbs m) (i := i) (by omega)
      have dx := dm.at hx
      simp -implicitDefEqProofs (disch := omega) only [↓walk, plain, List.length_map, List.getElem?_map, Option.map_some, Nat.reduceBEq, decT, decF, iteT, iteF, wrap_ok, Int.reduceToNat, Int.reduceLE, Int.reduceLT, Int.reduceAdd, Int.reduceSub, Int.reduceNeg, reduceIte, Nat.reduceEqDiff, Nat.reduceAdd, Nat.reduceSub, Nat.reduceMul, Nat.reduceLeDiff, Nat.reduceShiftRight, Nat.reduceMod, reduceCtorEq, f20, hx]
      have hz : os[i + (limbs n).length]? = some 0 := by
        obtain ⟨a, ha⟩ := getc (xs := os) (i := i + (limbs n).length) (by omega)
        rw [ha, hd.zero_at (mul_lt dm dn (by omega) hv) (Nat.le_refl _) ha]
      refine go_loopm 18014398375268096 (by first | rfl | (simp only [mods, modsL, modsD, optB]; rfl)) (fun K' fr2 H2 n3 => ∃ (k : Nat) (o2 : List Int) (c : Int), k + K' = (limbs n).length ∧ n0 ≤ n3 ∧ o2.length = (limbs m).length + (limbs n).length ∧ H2 (n0 + 1 + 1 + 1 + 1 + 1 + 1) = some (1, o2.map (.i .i64)) ∧ fr2 27 = .i .i64 k ∧ fr2 8 = .i .i64 c ∧ 0 ≤ c ∧ c < 1000000000 ∧ Dig o2 ∧ o2[i + (limbs n).length]? = some 0 ∧ val o2 + c * pw (i + k) = val os + x * pw i * val ((limbs n).take k)) (limbs n).length ?_ ?_
      · simp -implicitDefEqProofs (disch := omega) only [↓walk, plain, List.length_map, List.getElem?_map, Option.map_some, Nat.reduceBEq, decT, decF, iteT, iteF, wrap_ok, Int.reduceToNat, Int.reduceLE, Int.reduceLT, Int.reduceAdd, Int.reduceSub, Int.reduceNeg, reduceIte, Nat.reduceEqDiff, Nat.reduceAdd, Nat.reduceSub, Nat.reduceMul, Nat.reduceLeDiff, Nat.reduceShiftRight, Nat.reduceMod, reduceCtorEq]
        exact ⟨0, os, 0, by omega, by omega, hlen, hH, rfl, rfl, by omega, by omega, hd, hz, by simp [val]⟩
      · rintro K' fr2 H2 n3 ⟨k, o2, c, hK', hn3, hlen2, hH2, f27, f8, hc0, hc1, hd2, hz2, hv2⟩
        simp -implicitDefEqProofs (disch := omega) only [↓walk, plain, List.length_map, List.getElem?_map, Option.map_some, Nat.reduceBEq, iteT, iteF, wrap_ok, Int.reduceToNat, Int.reduceLE, Int.reduceLT, Int.reduceAdd, Int.reduceSub, Int.reduceNeg, reduceIte, Nat.reduceEqDiff, Nat.reduceAdd, Nat.reduceSub, Nat.reduceMul, Nat.reduceLeDiff, Nat.reduceShiftRight, Nat.reduceMod, reduceCtorEq, f27]
        refine goC_dec (fun h1 => ?_) (fun h1 => ?_)
        · obtain ⟨y, hy⟩ := getc (xs := limbs n) (i := k) (by omega)
          obtain ⟨o, ho⟩ := getc (xs := o2) (i := i + k) (by omega)
          have dy := dn.at hy
          have dO := hd2.at ho
          have hb := mul_bound dx.1 dx.2 dy.1 dy.2
          obtain ⟨q1, q2⟩ := qr (s := o + x * y + c) (by omega)
          have e1 : (i : Int) + k = ((i + k : Nat) : Int) := by omega
          have hset : (o2.map (AV.i .i64)).set (i + k) (.i .i64 ((o + x * y + c) % 1000000000)) = (o2.set (i + k) ((o + x * y + c) % 1000000000)).map (.i .i64) := by rw [List.map_set]
          simp -implicitDefEqProofs (disch := omega) only [↓walk, plain, List.length_map, List.getElem?_map, Option.map_some, Nat.reduceBEq, decT, decF, iteT, iteF, wrap_ok, Int.reduceToNat, Int.reduceLE, Int.reduceLT, Int.reduceAdd, Int.reduceSub, Int.reduceNeg, reduceIte, Nat.reduceEqDiff, Nat.reduceAdd, Nat.reduceSub, Nat.reduceMul, Nat.reduceLeDiff, Nat.reduceShiftRight, Nat.reduceMod, reduceCtorEq, f27, f8, hy, e1, hH2, ho, q1, q2, hset]
          refine ⟨K' - 1, by omega, k + 1, o2.set (i + k) ((o + x * y + c) % 1000000000), (o + x * y + c) / 1000000000, by omega, by omega, by simpa using hlen2, rfl, rfl, rfl, by omega, by omega, hd2.set (by omega) (by omega), ?_, ?_⟩
          · rw [List.getElem?_set_ne (by omega)]; exact hz2
          · exact mul_step hv2 ho hy (by omega)
        · have hk : k = (limbs n).length := by omega
          subst hk
          rw [take_all (Nat.le_refl _)] at hv2
          have e1 : (i : Int) + (limbs n).length = ((i + (limbs n).length : Nat) : Int) := by omega
          have hset : (o2.map (AV.i .i64)).set (i + (limbs n).length) (.i .i64 (0 + c)) = (o2.set (i + (limbs n).length) (0 + c)).map (.i .i64) := by rw [List.map_set]
          simp -implicitDefEqProofs (disch := omega) only [↓walk, plain, List.length_map, List.getElem?_map, Option.map_some, Nat.reduceBEq, decT, decF, iteT, iteF, wrap_ok, Int.reduceToNat, Int.reduceLE, Int.reduceLT, Int.reduceAdd, Int.reduceSub, Int.reduceNeg, reduceIte, Nat.reduceEqDiff, Nat.reduceAdd, Nat.reduceSub, Nat.reduceMul, Nat.reduceLeDiff, Nat.reduceShiftRight, Nat.reduceMod, reduceCtorEq, f27, f8, f20, e1, hH2, hz2, hset]
          exact ⟨K - 1, by omega, i + 1, _, by omega, by omega, by simpa using hlen2, rfl, rfl, hd2.set (by omega) (by omega), mul_row hv hv2 hx hz2 _ rfl⟩
    · simp -implicitDefEqProofs (disch := omega) only [↓walk, plain, List.length_map, List.getElem?_map, Option.map_some, Nat.reduceBEq, decT, decF, iteT, iteF, wrap_ok, Int.reduceToNat, Int.reduceLE, Int.reduceLT, Int.reduceAdd, Int.reduceSub, Int.reduceNeg, reduceIte, Nat.reduceEqDiff, Nat.reduceAdd, Nat.reduceSub, Nat.reduceMul, Nat.reduceLeDiff, Nat.reduceShiftRight, Nat.reduceMod, reduceCtorEq]
      rw [← hlen]
      refine goCall_mc0 (k_impl_trim.1 _ _ _ os (by omega) hH) ?_
      rintro v H2 n3 ⟨rfl, _, k2, hk2, rfl, ht⟩
      simp -implicitDefEqProofs (disch := omega) only [↓walk, plain, List.length_map, List.getElem?_map, Option.map_some, Nat.reduceBEq, decT, decF, iteT, iteF, wrap_ok, Int.reduceToNat, Int.reduceLE, Int.reduceLT, Int.reduceAdd, Int.reduceSub, Int.reduceNeg, reduceIte, Nat.reduceEqDiff, Nat.reduceAdd, Nat.reduceSub, Nat.reduceMul, Nat.reduceLeDiff, Nat.reduceShiftRight, Nat.reduceMod, reduceCtorEq]
      rw [take_all (by omega), val_limbs, val_limbs] at hv
      rw [← trim_val (n := m * n) hd (by rw [hv]; simp) hk2 ht.1 ht.2]
      exact takeI (n2 := n3) hk2 (by omega) hH
end Go.Am
/-! Walks: division by one limb, tests; the reference's lists of limbs. -/
namespace Go.Am
set_option linter.unusedVariables false
set_option linter.unusedSimpArgs false
set_option maxRecDepth 10000
set_option maxHeartbeats 4000000
theorem small_step {xs os : List Int} {i : Nat} {d r a q r' : Int} (hv : val (xs.drop (i + 1)) = val (os.drop (i + 1)) * d + r) (ha : xs[i]? = some a) (hi : i < os.length) (hq : q * d + r' = r * 1000000000 + a) :
    val (xs.drop i) = val ((os.set i q).drop i) * d + r' := by
  rw [val_drop ha, val_drop (xs := os.set i q) (a := q) (by rw [List.getElem?_set_self hi]), drop_set, hv]
  grind
theorem div_bound {r a d : Int} (h0 : 0 ≤ r) (h1 : r < d) (ha : 0 ≤ a) (ha2 : a < 1000000000) (hd : d < 1000000000) : 0 ≤ r * 1000000000 + a ∧ r * 1000000000 + a < 1000000000000000000 ∧ (r * 1000000000 + a) / d < 1000000000 ∧ 0 ≤ (r * 1000000000 + a) / d := by
  refine ⟨by omega, by omega, ?_, Int.ediv_nonneg (by omega) (by omega)⟩
  rw [Int.ediv_lt_iff_lt_mul (by omega)]
  omega
theorem small_end {os : List Int} {m d k : Nat} {r : Int} (hd : Dig os) (h0 : 0 ≤ r) (h1 : r < d) (hv : val (limbs m) = val os * d + r) (hk : k ≤ os.length) (ht : TrimAt os k) : os.take k = limbs (m / d) ∧ r = ((m % d : Nat) : Int) := by
  rw [val_limbs] at hv
  have hn := hd.nonneg
  have e1 : (m : Int) / d = val os := by
    rw [hv, Int.add_comm, Int.add_mul_ediv_right _ _ (by omega), Int.ediv_eq_zero_of_lt h0 h1]; omega
  have e2 : (m : Int) % d = r := by
    rw [hv, Int.add_comm, Int.add_mul_emod_self_right, Int.emod_eq_of_lt h0 h1]
  have e3 : ((m / d : Nat) : Int) = val os := by rw [← e1]; exact Int.natCast_ediv m d
  have e4 : ((m % d : Nat) : Int) = r := by rw [← e2]; exact Int.natCast_emod m d
  exact ⟨trim_val hd e3.symm hk ht.1 ht.2, e4.symm⟩
def c_impl_divSmall (n_impl_trim : Nat) (n_impl_NatOf : Nat) : AF := ⟨40, .seq (.ops [⟨(some 4), .mv (.c .nl), none, []⟩,
   ⟨(some 5), .mv (.c .nl), none, []⟩])
  (.seq (.ops [⟨(some 10), .mv (.t 0), none, []⟩,
   ⟨(some 11), .len (.t 10), none, []⟩,
   ⟨(some 12), .mks (.i .i64 0) 8 (.t 11) (.t 11), none, []⟩,
   ⟨(some 6), .mv (.t 12), none, []⟩])
  (.seq (.ops [⟨(some 7), .mv (.c (.i .i64 0)), none, []⟩])
  (.seq (.seq (.ops [⟨(some 13), .mv (.t 0), none, []⟩,
   ⟨(some 14), .len (.t 13), none, []⟩,
   ⟨(some 15), .bin .sub (.t 14) (.c (.i .i64 1)), none, []⟩,
   ⟨(some 8), .mv (.t 15), none, []⟩])
  (.block 0 (.loop (.seq (.seq (.ops [⟨(some 16), .mv (.t 8), none, []⟩,
   ⟨(some 17), .bin .geq (.t 16) (.c (.i .i64 0)), none, []⟩])
  (.cond (.t 17)
  (.skip)
  (.exit 0)))
  (.seq (.block 1 (.seq (.ops [⟨(some 20), .mv (.t 7), none, []⟩,
   ⟨(some 21), .bin .mul (.t 20) (.c (.i .i64 1000000000)), none, []⟩,
   ⟨(some 22), .mv (.t 0), none, []⟩,
   ⟨(some 23), .mv (.t 8), none, []⟩,
   ⟨(some 24), .iad 1 (.t 22) (.t 23), none, []⟩,
   ⟨(some 25), .ld none (.t 24), none, []⟩,
   ⟨(some 26), .bin .add (.t 21) (.t 25), none, []⟩,
   ⟨(some 9), .mv (.t 26), none, []⟩])
  (.seq (.ops [⟨(some 27), .mv (.t 6), none, []⟩,
   ⟨(some 28), .mv (.t 8), none, []⟩,
   ⟨(some 29), .mv (.t 9), none, []⟩,
   ⟨(some 30), .mv (.t 1), none, []⟩,
   ⟨(some 31), .bin .quo (.t 29) (.t 30), none, []⟩,
   ⟨(some 32), .iad 1 (.t 27) (.t 28), none, []⟩,
   ⟨none, .st none (.t 32) (.t 31), none, []⟩])
  (.ops [⟨(some 33), .mv (.t 9), none, []⟩,
   ⟨(some 34), .mv (.t 1), none, []⟩,
   ⟨(some 35), .bin .rem (.t 33) (.t 34), none, []⟩,
   ⟨(some 7), .mv (.t 35), none, []⟩]))))
  (.ops [⟨(some 18), .mv (.t 8), none, []⟩,
   ⟨(some 19), .bin .sub (.t 18) (.c (.i .i64 1)), none, []⟩,
   ⟨(some 8), .mv (.t 19), none, []⟩]))))))
  (.seq (.ops [⟨(some 36), .mv (.t 6), none, []⟩,
   ⟨(some 37), .call true n_impl_trim [(.t 36)], none, []⟩,
   ⟨(some 38), .mv (.t 7), none, []⟩,
   ⟨(some 39), .call true n_impl_NatOf [(.t 38)], none, []⟩,
   ⟨(some 4), .mv (.t 37), none, []⟩,
   ⟨(some 5), .mv (.t 39), none, []⟩])
  (.ret))))), [.t 4, .t 5]⟩
def K_impl_divSmall (P : Program) (f : Nat) : Prop := ∀ m d : Nat, 0 < d → d < 1000000000 → (limbs m).length ≤ 4096 → FCI2 P f [ints (limbs m), .i .i64 d] (limbs (m / d)) (limbs (m % d))
theorem t_impl_divSmall {P : Program} {f n_impl_trim n_impl_NatOf : Nat} (h : Has P f (c_impl_divSmall n_impl_trim n_impl_NatOf)) (k_impl_trim : K_impl_trim P n_impl_trim) (k_impl_NatOf : K_impl_NatOf P n_impl_NatOf) : K_impl_divSmall P f := by
  intro m d hd0 hd1 hm
  refine pc_go h (by simp) ?_
  have dm := limbs_dig m
  simp -implicitDefEqProofs (disch := omega) only [↓walk, plain, List.length_map, List.getElem?_map, Option.map_some, Nat.reduceBEq, decT, decF, iteT, iteF, wrap_ok, Int.reduceToNat, Int.reduceLE, Int.reduceLT, Int.reduceAdd, Int.reduceSub, Int.reduceNeg, reduceIte, Nat.reduceEqDiff, Nat.reduceAdd, Nat.reduceSub, Nat.reduceMul, Nat.reduceLeDiff, Nat.reduceShiftRight, Nat.reduceMod, reduceCtorEq, ints, rep_map, maxB]
  refine go_loopm 68719412096 (by first | rfl | (simp only [mods, modsL, modsD, optB]; rfl)) (fun K fr H n2 => ∃ (os : List Int) (r : Int), K ≤ (limbs m).length ∧ 5 ≤ n2 ∧ os.length = (limbs m).length ∧ H 4 = some (1, os.map (.i .i64)) ∧ fr 8 = .i .i64 (K - 1) ∧ fr 7 = .i .i64 r ∧ 0 ≤ r ∧ r < d ∧ Dig os ∧ val ((limbs m).drop K) = val (os.drop K) * d + r) (limbs m).length ?_ ?_
  · simp -implicitDefEqProofs (disch := omega) only [↓walk, plain, List.length_map, List.getElem?_map, Option.map_some, Nat.reduceBEq, decT, decF, iteT, iteF, wrap_ok, Int.reduceToNat, Int.reduceLE, Int.reduceLT, Int.reduceAdd, Int.reduceSub, Int.reduceNeg, reduceIte, Nat.reduceEqDiff, Nat.reduceAdd, Nat.reduceSub, Nat.reduceMul, Nat.reduceLeDiff, Nat.reduceShiftRight, Nat.reduceMod, reduceCtorEq]
    refine ⟨List.replicate (limbs m).length 0, 0, ?_⟩
    (repeat' first | refine And.intro ?_ ?_ | rfl | omega | assumption | exact trivial | (dsimp only; omega))
    · simp
    · exact Dig.replicate _
    · rw [List.drop_length, List.drop_of_length_le (by simp)]; simp [val]
  · rintro K fr H n2 ⟨os, r, hK, hn2, hlen, hH, f8, f7, hr0, hr1, hd, hv⟩
    simp -implicitDefEqProofs (disch := omega) only [↓walk, plain, List.length_map, List.getElem?_map, Option.map_some, Nat.reduceBEq, iteT, iteF, wrap_ok, Int.reduceToNat, Int.reduceLE, Int.reduceLT, Int.reduceAdd, Int.reduceSub, Int.reduceNeg, reduceIte, Nat.reduceEqDiff, Nat.reduceAdd, Nat.reduceSub, Nat.reduceMul, Nat.reduceLeDiff, Nat.reduceShiftRight, Nat.reduceMod, reduceCtorEq, f8]
    refine goC_dec (fun h0 => ?_) (fun h0 => ?_)
    · obtain ⟨a, ha⟩ := getc (xs := limbs m) (i := K - 1) (by omega)
      obtain ⟨o, ho⟩ := getc (xs := os) (i := K - 1) (by omega)
      have da := dm.at ha
      obtain ⟨b1, b2, b3, b4⟩ := div_bound hr0 hr1 da.1 da.2 (by omega)
      have q1 : Int.tdiv (r * 1000000000 + a) d = (r * 1000000000 + a) / d := Int.tdiv_eq_ediv_of_nonneg b1
      have q2 : Int.tmod (r * 1000000000 + a) d = (r * 1000000000 + a) % d := Int.tmod_eq_emod_of_nonneg b1
      have e1 : (K : Int) - 1 = ((K - 1 : Nat) : Int) := by omega
      have hset : (os.map (AV.i .i64)).set (K - 1) (.i .i64 ((r * 1000000000 + a) / d)) = (os.set (K - 1) ((r * 1000000000 + a) / d)).map (.i .i64) := by rw [List.map_set]
      simp -implicitDefEqProofs (disch := omega) only [↓walk, plain, List.length_map, List.getElem?_map, Option.map_some, Nat.reduceBEq, decT, decF, iteT, iteF, wrap_ok, Int.reduceToNat, Int.reduceLE, Int.reduceLT, Int.reduceAdd, Int.reduceSub, Int.reduceNeg, reduceIte, Nat.reduceEqDiff, Nat.reduceAdd, Nat.reduceSub, Nat.reduceMul, Nat.reduceLeDiff, Nat.reduceShiftRight, Nat.reduceMod, reduceCtorEq, f8, f7, e1, ha, ho, hH, q1, q2, hset]
      have m1 := Int.emod_nonneg (r * 1000000000 + a) (show (d : Int) ≠ 0 by omega)
      have m2 := Int.emod_lt_of_pos (r * 1000000000 + a) (show 0 < (d : Int) by omega)
      have m3 := Int.ediv_mul_add_emod (r * 1000000000 + a) d
      refine ⟨K - 1, by omega, os.set (K - 1) ((r * 1000000000 + a) / d), (r * 1000000000 + a) % d, ?_⟩
      (repeat' first | refine And.intro ?_ ?_ | rfl | omega | assumption | exact trivial | (dsimp only; omega))
      · simpa using hlen
      · exact hd.set b4 b3
      · exact small_step (i := K - 1) (by rw [show K - 1 + 1 = K by omega]; exact hv) ha (by omega) m3
    · have hK0 : K = 0 := by omega
      subst hK0
      simp -implicitDefEqProofs (disch := omega) only [↓walk, plain, List.length_map, List.getElem?_map, Option.map_some, Nat.reduceBEq, decT, decF, iteT, iteF, wrap_ok, Int.reduceToNat, Int.reduceLE, Int.reduceLT, Int.reduceAdd, Int.reduceSub, Int.reduceNeg, reduceIte, Nat.reduceEqDiff, Nat.reduceAdd, Nat.reduceSub, Nat.reduceMul, Nat.reduceLeDiff, Nat.reduceShiftRight, Nat.reduceMod, reduceCtorEq, f7]
      rw [← hlen]
      refine goCall_mc0 (k_impl_trim.1 _ _ _ os (by omega) hH) ?_
      rintro v H2 n3 ⟨rfl, hn3, k2, hk2, rfl, ht⟩
      simp only [List.drop_zero] at hv
      obtain ⟨e1, rfl⟩ := small_end hd hr0 hr1 hv hk2 ht
      simp -implicitDefEqProofs (disch := omega) only [↓walk, plain, List.length_map, List.getElem?_map, Option.map_some, Nat.reduceBEq, decT, decF, iteT, iteF, wrap_ok, Int.reduceToNat, Int.reduceLE, Int.reduceLT, Int.reduceAdd, Int.reduceSub, Int.reduceNeg, reduceIte, Nat.reduceEqDiff, Nat.reduceAdd, Nat.reduceSub, Nat.reduceMul, Nat.reduceLeDiff, Nat.reduceShiftRight, Nat.reduceMod, reduceCtorEq, f7]
      have hmd : m % d < d := Nat.mod_lt _ hd0
      refine goCall_fc (OCI.fc (k_impl_NatOf ((m % d : Nat) : Int) (by omega))) (by repeat (first | exact vws_nil | refine vws_cons ?_ ?_ | exact vw_bb | exact vw_ii | exact vw_ss | exact vw_ints | exact vw_ints0 | exact vw_nn | exact vw_n0 | exact vwl_nil | refine vwl_cons ?_ ?_ | refine vw_agg ?_ | refine vw_fn ?_ | assumption)) ?_
      simp -implicitDefEqProofs (disch := omega) only [↓walk, plain, List.length_map, List.getElem?_map, Option.map_some, Nat.reduceBEq, decT, decF, iteT, iteF, wrap_ok, Int.reduceToNat, Int.reduceLE, Int.reduceLT, Int.reduceAdd, Int.reduceSub, Int.reduceNeg, reduceIte, Nat.reduceEqDiff, Nat.reduceAdd, Nat.reduceSub, Nat.reduceMul, Nat.reduceLeDiff, Nat.reduceShiftRight, Nat.reduceMod, reduceCtorEq]
      refine data_ints2 (fz_ints_rf hH (by rw [← e1, List.length_take, Nat.min_eq_left hk2]) (by rw [← e1, List.map_take])) (fz_ints_sl rfl) ?_
      omega
end Go.Am
/-! Walks: which lists are numbers; the reference's lists of limbs. -/
namespace Go.Am
set_option linter.unusedVariables false
set_option linter.unusedSimpArgs false
set_option maxRecDepth 10000
set_option maxHeartbeats 4000000
/-- The list is a natural number. -/
def NOk (xs : List Int) : Prop := xs.length ≤ 60 ∧ Dig xs ∧ Top xs
open Classical in
noncomputable def nok (xs : List Int) : Bool := decide (NOk xs)
theorem nok_t {xs : List Int} (h : NOk xs) : nok xs = true := by simp [nok, h]
theorem nok_f {xs : List Int} (h : ¬ NOk xs) : nok xs = false := by simp [nok, h]
theorem nok_iff {xs : List Int} : nok xs = true ↔ NOk xs := by simp [nok]
theorem NOk.eq {xs : List Int} (h : NOk xs) : ∃ n : Nat, xs = limbs n ∧ (limbs n).length ≤ 60 := ⟨_, uniq h.2.1 h.2.2, by rw [← uniq h.2.1 h.2.2]; exact h.1⟩
theorem NOk.of {n : Nat} (h : (limbs n).length ≤ 60) : NOk (limbs n) := ⟨h, limbs_dig n, limbs_top n⟩
theorem dig_snoc_take {xs : List Int} {i : Nat} {a : Int} (h : Dig (xs.take i)) (ha : xs[i]? = some a) (h1 : 0 ≤ a) (h2 : a < 1000000000) : Dig (xs.take (i + 1)) := by
  rw [List.take_add_one, ha]; exact h.snoc h1 h2
def c_impl_NatOk : AF := ⟨35, .seq (.ops [⟨(some 2), .mv (.c (.b false)), none, []⟩])
  (.seq (.seq (.ops [⟨(some 5), .mv (.t 0), none, []⟩,
   ⟨(some 6), .len (.t 5), none, []⟩,
   ⟨(some 7), .bin .gtr (.t 6) (.c (.i .i64 60)), none, []⟩,
   ⟨(some 8), .mv (.t 7), none, []⟩,
   ⟨(some 9), .mv (.t 0), some (8, false), []⟩,
   ⟨(some 10), .len (.t 9), some (8, false), []⟩,
   ⟨(some 11), .bin .gtr (.t 10) (.c (.i .i64 0)), some (8, false), []⟩,
   ⟨(some 12), .mv (.t 11), some (8, false), []⟩,
   ⟨(some 13), .mv (.t 0), some (12, true), []⟩,
   ⟨(some 14), .mv (.t 0), some (12, true), []⟩,
   ⟨(some 15), .len (.t 14), some (12, true), []⟩,
   ⟨(some 16), .bin .sub (.t 15) (.c (.i .i64 1)), some (12, true), []⟩,
   ⟨(some 17), .iad 1 (.t 13) (.t 16), some (12, true), []⟩,
   ⟨(some 18), .ld none (.t 17), some (12, true), []⟩,
   ⟨(some 19), .bin .eql (.t 18) (.c (.i .i64 0)), some (12, true), []⟩,
   ⟨(some 20), .pick (.t 12) (.t 19) (.c (.b false)), some (8, false), []⟩,
   ⟨(some 21), .pick (.t 8) (.c (.b true)) (.t 20), none, []⟩])
  (.cond (.t 21)
  (.seq (.ops [⟨(some 2), .mv (.c (.b false)), none, []⟩])
   (.ret))
  (.skip)))
  (.seq (.seq (.ops [⟨(some 22), .mv (.t 0), none, []⟩,
   ⟨(some 23), .len (.t 22), none, []⟩,
   ⟨(some 24), .mv (.c (.i .i64 0)), none, []⟩])
  (.block 0 (.loop (.seq (.ops [⟨(some 25), .bin .lss (.t 24) (.t 23), none, []⟩])
  (.seq (.cond (.t 25)
  (.skip)
  (.exit 0))
  (.seq (.block 1 (.seq (.ops [⟨(some 26), .iad 1 (.t 22) (.t 24), none, []⟩,
   ⟨(some 27), .ld none (.t 26), none, []⟩,
   ⟨(some 4), .mv (.t 27), none, []⟩])
  (.seq (.ops [⟨(some 28), .mv (.t 4), none, []⟩,
   ⟨(some 29), .bin .lss (.t 28) (.c (.i .i64 0)), none, []⟩,
   ⟨(some 30), .mv (.t 29), none, []⟩,
   ⟨(some 31), .mv (.t 4), some (30, false), []⟩,
   ⟨(some 32), .bin .geq (.t 31) (.c (.i .i64 1000000000)), some (30, false), []⟩,
   ⟨(some 33), .pick (.t 30) (.c (.b true)) (.t 32), none, []⟩])
  (.cond (.t 33)
  (.seq (.ops [⟨(some 2), .mv (.c (.b false)), none, []⟩])
   (.ret))
  (.skip)))))
  (.ops [⟨(some 34), .bin .add (.t 24) (.c (.i .i64 1)), none, []⟩,
   ⟨(some 24), .mv (.t 34), none, []⟩])))))))
  (.seq (.ops [⟨(some 2), .mv (.c (.b true)), none, []⟩])
  (.ret)))), [.t 2]⟩
def K_impl_NatOk (P : Program) (f : Nat) : Prop := ∀ xs : List Int, xs.length < 9223372036854775808 → SC P f [ints xs] (.b (nok xs))
theorem t_impl_NatOk {P : Program} {f : Nat} (h : Has P f c_impl_NatOk) : K_impl_NatOk P f := by
  intro xs hx
  refine sc_go h (by simp) ?_
  by_cases h1 : 60 < xs.length
  · simp -implicitDefEqProofs (disch := omega) only [↓walk, plain, List.length_map, List.getElem?_map, Option.map_some, Nat.reduceBEq, decT, decF, iteT, iteF, wrap_ok, Int.reduceToNat, Int.reduceLE, Int.reduceLT, Int.reduceAdd, Int.reduceSub, Int.reduceNeg, reduceIte, Nat.reduceEqDiff, Nat.reduceAdd, Nat.reduceSub, Nat.reduceMul, Nat.reduceLeDiff, Nat.reduceShiftRight, Nat.reduceMod, reduceCtorEq, ints]
    exact data_b (nok_f (xs := xs) fun hn => by have := hn.1; omega).symm
  have hloop : Top xs → go P (.loop (.seq (.ops []) (.ops []))) [] (fun _ _ => True) ⟨fun _ => .top, noHeap, 0⟩ → True := fun _ _ => trivial
  clear hloop
  by_cases h2 : xs.length = 0
  · have : xs = [] := List.length_eq_zero_iff.1 h2
    subst this
    simp -implicitDefEqProofs (disch := omega) only [↓walk, plain, List.length_map, List.getElem?_map, Option.map_some, Nat.reduceBEq, decT, decF, iteT, iteF, wrap_ok, Int.reduceToNat, Int.reduceLE, Int.reduceLT, Int.reduceAdd, Int.reduceSub, Int.reduceNeg, reduceIte, Nat.reduceEqDiff, Nat.reduceAdd, Nat.reduceSub, Nat.reduceMul, Nat.reduceLeDiff, Nat.reduceShiftRight, Nat.reduceMod, reduceCtorEq, ints, List.map_nil]
    refine go_loopm 34342961172 (by first | rfl | (simp only [mods, modsL, modsD, optB]; rfl)) (fun k fr H n => fr 24 = .i .i64 0) 0 ?_ ?_
    · simp -implicitDefEqProofs (disch := omega) only [↓walk, plain, List.length_map, List.getElem?_map, Option.map_some, Nat.reduceBEq, decT, decF, iteT, iteF, wrap_ok, Int.reduceToNat, Int.reduceLE, Int.reduceLT, Int.reduceAdd, Int.reduceSub, Int.reduceNeg, reduceIte, Nat.reduceEqDiff, Nat.reduceAdd, Nat.reduceSub, Nat.reduceMul, Nat.reduceLeDiff, Nat.reduceShiftRight, Nat.reduceMod, reduceCtorEq]
    · rintro k fr H n f24
      simp -implicitDefEqProofs (disch := omega) only [↓walk, plain, List.length_map, List.getElem?_map, Option.map_some, Nat.reduceBEq, decT, decF, iteT, iteF, wrap_ok, Int.reduceToNat, Int.reduceLE, Int.reduceLT, Int.reduceAdd, Int.reduceSub, Int.reduceNeg, reduceIte, Nat.reduceEqDiff, Nat.reduceAdd, Nat.reduceSub, Nat.reduceMul, Nat.reduceLeDiff, Nat.reduceShiftRight, Nat.reduceMod, reduceCtorEq, f24]
      exact data_b (nok_t (xs := []) ⟨by simp, Dig.nil, fun a ha => by simp at ha⟩).symm
  obtain ⟨z, hz⟩ := getc (xs := xs) (i := xs.length - 1) (by omega)
  have e1 : (xs.length : Int) - 1 = ((xs.length - 1 : Nat) : Int) := by omega
  by_cases h3 : z = 0
  · simp -implicitDefEqProofs (disch := omega) only [↓walk, plain, List.length_map, List.getElem?_map, Option.map_some, Nat.reduceBEq, decT, decF, iteT, iteF, wrap_ok, Int.reduceToNat, Int.reduceLE, Int.reduceLT, Int.reduceAdd, Int.reduceSub, Int.reduceNeg, reduceIte, Nat.reduceEqDiff, Nat.reduceAdd, Nat.reduceSub, Nat.reduceMul, Nat.reduceLeDiff, Nat.reduceShiftRight, Nat.reduceMod, reduceCtorEq, ints, e1, hz]
    exact data_b (nok_f (xs := xs) fun hn => hn.2.2 z hz h3).symm
  · simp -implicitDefEqProofs (disch := omega) only [↓walk, plain, List.length_map, List.getElem?_map, Option.map_some, Nat.reduceBEq, decT, decF, iteT, iteF, wrap_ok, Int.reduceToNat, Int.reduceLE, Int.reduceLT, Int.reduceAdd, Int.reduceSub, Int.reduceNeg, reduceIte, Nat.reduceEqDiff, Nat.reduceAdd, Nat.reduceSub, Nat.reduceMul, Nat.reduceLeDiff, Nat.reduceShiftRight, Nat.reduceMod, reduceCtorEq, ints, e1, hz]
    refine go_loopm 34342961172 (by first | rfl | (simp only [mods, modsL, modsD, optB]; rfl)) (fun k fr H n => ∃ i : Nat, i + k = xs.length ∧ fr 24 = .i .i64 i ∧ Dig (xs.take i)) xs.length ?_ ?_
    · simp -implicitDefEqProofs (disch := omega) only [↓walk, plain, List.length_map, List.getElem?_map, Option.map_some, Nat.reduceBEq, decT, decF, iteT, iteF, wrap_ok, Int.reduceToNat, Int.reduceLE, Int.reduceLT, Int.reduceAdd, Int.reduceSub, Int.reduceNeg, reduceIte, Nat.reduceEqDiff, Nat.reduceAdd, Nat.reduceSub, Nat.reduceMul, Nat.reduceLeDiff, Nat.reduceShiftRight, Nat.reduceMod, reduceCtorEq]
      exact ⟨0, by omega, rfl, by simp [Dig]⟩
    · rintro k fr H n ⟨i, hk, f24, hd⟩
      simp -implicitDefEqProofs (disch := omega) only [↓walk, plain, List.length_map, List.getElem?_map, Option.map_some, Nat.reduceBEq, iteT, iteF, wrap_ok, Int.reduceToNat, Int.reduceLE, Int.reduceLT, Int.reduceAdd, Int.reduceSub, Int.reduceNeg, reduceIte, Nat.reduceEqDiff, Nat.reduceAdd, Nat.reduceSub, Nat.reduceMul, Nat.reduceLeDiff, Nat.reduceShiftRight, Nat.reduceMod, reduceCtorEq, f24]
      refine goC_dec (fun h0 => ?_) (fun h0 => ?_)
      · obtain ⟨a, ha⟩ := getc (xs := xs) (i := i) (by omega)
        by_cases ha1 : 0 ≤ a ∧ a < 1000000000
        · simp -implicitDefEqProofs (disch := omega) only [↓walk, plain, List.length_map, List.getElem?_map, Option.map_some, Nat.reduceBEq, decT, decF, iteT, iteF, wrap_ok, Int.reduceToNat, Int.reduceLE, Int.reduceLT, Int.reduceAdd, Int.reduceSub, Int.reduceNeg, reduceIte, Nat.reduceEqDiff, Nat.reduceAdd, Nat.reduceSub, Nat.reduceMul, Nat.reduceLeDiff, Nat.reduceShiftRight, Nat.reduceMod, reduceCtorEq, f24, ha]
          exact ⟨k - 1, by omega, i + 1, by omega, rfl, dig_snoc_take hd ha ha1.1 ha1.2⟩
        · by_cases ha2 : a < 0
          · simp -implicitDefEqProofs (disch := omega) only [↓walk, plain, List.length_map, List.getElem?_map, Option.map_some, Nat.reduceBEq, decT, decF, iteT, iteF, wrap_ok, Int.reduceToNat, Int.reduceLE, Int.reduceLT, Int.reduceAdd, Int.reduceSub, Int.reduceNeg, reduceIte, Nat.reduceEqDiff, Nat.reduceAdd, Nat.reduceSub, Nat.reduceMul, Nat.reduceLeDiff, Nat.reduceShiftRight, Nat.reduceMod, reduceCtorEq, f24, ha]
            exact data_b (nok_f (xs := xs) fun hn => ha1 (hn.2.1.at ha)).symm
          · simp -implicitDefEqProofs (disch := omega) only [↓walk, plain, List.length_map, List.getElem?_map, Option.map_some, Nat.reduceBEq, decT, decF, iteT, iteF, wrap_ok, Int.reduceToNat, Int.reduceLE, Int.reduceLT, Int.reduceAdd, Int.reduceSub, Int.reduceNeg, reduceIte, Nat.reduceEqDiff, Nat.reduceAdd, Nat.reduceSub, Nat.reduceMul, Nat.reduceLeDiff, Nat.reduceShiftRight, Nat.reduceMod, reduceCtorEq, f24, ha]
            exact data_b (nok_f (xs := xs) fun hn => ha1 (hn.2.1.at ha)).symm
      · simp -implicitDefEqProofs (disch := omega) only [↓walk, plain, List.length_map, List.getElem?_map, Option.map_some, Nat.reduceBEq, decT, decF, iteT, iteF, wrap_ok, Int.reduceToNat, Int.reduceLE, Int.reduceLT, Int.reduceAdd, Int.reduceSub, Int.reduceNeg, reduceIte, Nat.reduceEqDiff, Nat.reduceAdd, Nat.reduceSub, Nat.reduceMul, Nat.reduceLeDiff, Nat.reduceShiftRight, Nat.reduceMod, reduceCtorEq]
        rw [take_all (by omega)] at hd
        refine data_b (nok_t (xs := xs) ⟨by omega, hd, fun a ha => ?_⟩).symm
        rw [hz] at ha; cases ha; exact h3
def c_spec_l01In : AF := ⟨15, .seq (.ops [⟨(some 6), .mv (.c (.b false)), none, []⟩])
  (.seq (.ops [⟨(some 7), .mv (.t 0), none, []⟩,
   ⟨(some 8), .mv (.t 1), none, []⟩,
   ⟨(some 9), .bin .geq (.t 7) (.t 8), none, []⟩,
   ⟨(some 10), .mv (.t 9), none, []⟩,
   ⟨(some 11), .mv (.t 0), some (10, true), []⟩,
   ⟨(some 12), .mv (.t 2), some (10, true), []⟩,
   ⟨(some 13), .bin .leq (.t 11) (.t 12), some (10, true), []⟩,
   ⟨(some 14), .pick (.t 10) (.t 13) (.c (.b false)), none, []⟩,
   ⟨(some 6), .mv (.t 14), none, []⟩])
  (.ret)), [.t 6]⟩
def K_spec_l01In (P : Program) (f : Nat) : Prop := ∀ x lo hi : Int, SC P f [.i .i64 x, .i .i64 lo, .i .i64 hi] (.b (decide (lo ≤ x ∧ x ≤ hi)))
theorem t_spec_l01In {P : Program} {f : Nat} (h : Has P f c_spec_l01In) : K_spec_l01In P f := by
  intro x lo hi
  refine sc_go h (by simp) ?_
  by_cases h1 : lo ≤ x
  · by_cases h2 : x ≤ hi
    · simp -implicitDefEqProofs (disch := omega) only [↓walk, plain, List.length_map, List.getElem?_map, Option.map_some, Nat.reduceBEq, decT, decF, iteT, iteF, wrap_ok, Int.reduceToNat, Int.reduceLE, Int.reduceLT, Int.reduceAdd, Int.reduceSub, Int.reduceNeg, reduceIte, Nat.reduceEqDiff, Nat.reduceAdd, Nat.reduceSub, Nat.reduceMul, Nat.reduceLeDiff, Nat.reduceShiftRight, Nat.reduceMod, reduceCtorEq]
      exact data_b (by simp [h1, h2])
    · simp -implicitDefEqProofs (disch := omega) only [↓walk, plain, List.length_map, List.getElem?_map, Option.map_some, Nat.reduceBEq, decT, decF, iteT, iteF, wrap_ok, Int.reduceToNat, Int.reduceLE, Int.reduceLT, Int.reduceAdd, Int.reduceSub, Int.reduceNeg, reduceIte, Nat.reduceEqDiff, Nat.reduceAdd, Nat.reduceSub, Nat.reduceMul, Nat.reduceLeDiff, Nat.reduceShiftRight, Nat.reduceMod, reduceCtorEq]
      exact data_b (by simp [h1, h2])
  · simp -implicitDefEqProofs (disch := omega) only [↓walk, plain, List.length_map, List.getElem?_map, Option.map_some, Nat.reduceBEq, decT, decF, iteT, iteF, wrap_ok, Int.reduceToNat, Int.reduceLE, Int.reduceLT, Int.reduceAdd, Int.reduceSub, Int.reduceNeg, reduceIte, Nat.reduceEqDiff, Nat.reduceAdd, Nat.reduceSub, Nat.reduceMul, Nat.reduceLeDiff, Nat.reduceShiftRight, Nat.reduceMod, reduceCtorEq]
    exact data_b (by simp [h1])
def c_spec_NatOk (n_spec_l01In : Nat) : AF := ⟨32, .seq (.ops [⟨(some 2), .mv (.c (.b false)), none, []⟩])
  (.seq (.seq (.ops [⟨(some 5), .mv (.t 0), none, []⟩,
   ⟨(some 6), .len (.t 5), none, []⟩,
   ⟨(some 7), .mv (.c (.i .i64 0)), none, []⟩])
  (.block 0 (.loop (.seq (.ops [⟨(some 8), .bin .lss (.t 7) (.t 6), none, []⟩])
  (.seq (.cond (.t 8)
  (.skip)
  (.exit 0))
  (.seq (.block 1 (.seq (.ops [⟨(some 9), .iad 1 (.t 5) (.t 7), none, []⟩,
   ⟨(some 10), .ld none (.t 9), none, []⟩,
   ⟨(some 4), .mv (.t 10), none, []⟩])
  (.seq (.ops [⟨(some 11), .mv (.t 4), none, []⟩,
   ⟨(some 12), .call true n_spec_l01In [(.t 11), (.c (.i .i64 0)), (.c (.i .i64 999999999))], none, []⟩,
   ⟨(some 13), .not (.t 12), none, []⟩])
  (.cond (.t 13)
  (.seq (.ops [⟨(some 2), .mv (.c (.b false)), none, []⟩])
   (.ret))
  (.skip)))))
  (.ops [⟨(some 14), .bin .add (.t 7) (.c (.i .i64 1)), none, []⟩,
   ⟨(some 7), .mv (.t 14), none, []⟩])))))))
  (.seq (.ops [⟨(some 15), .mv (.t 0), none, []⟩,
   ⟨(some 16), .len (.t 15), none, []⟩,
   ⟨(some 17), .bin .leq (.t 16) (.c (.i .i64 60)), none, []⟩,
   ⟨(some 18), .mv (.t 17), none, []⟩,
   ⟨(some 19), .mv (.t 0), some (18, true), []⟩,
   ⟨(some 20), .len (.t 19), some (18, true), []⟩,
   ⟨(some 21), .bin .eql (.t 20) (.c (.i .i64 0)), some (18, true), []⟩,
   ⟨(some 22), .mv (.t 21), some (18, true), []⟩,
   ⟨(some 23), .mv (.t 0), some (22, false), []⟩,
   ⟨(some 24), .mv (.t 0), some (22, false), []⟩,
   ⟨(some 25), .len (.t 24), some (22, false), []⟩,
   ⟨(some 26), .bin .sub (.t 25) (.c (.i .i64 1)), some (22, false), []⟩,
   ⟨(some 27), .iad 1 (.t 23) (.t 26), some (22, false), []⟩,
   ⟨(some 28), .ld none (.t 27), some (22, false), []⟩,
   ⟨(some 29), .bin .neq (.t 28) (.c (.i .i64 0)), some (22, false), []⟩,
   ⟨(some 30), .pick (.t 22) (.c (.b true)) (.t 29), some (18, true), []⟩,
   ⟨(some 31), .pick (.t 18) (.t 30) (.c (.b false)), none, []⟩,
   ⟨(some 2), .mv (.t 31), none, []⟩])
  (.ret))), [.t 2]⟩
def K_spec_NatOk (P : Program) (f : Nat) : Prop := ∀ xs : List Int, xs.length < 9223372036854775808 → SC P f [ints xs] (.b (nok xs))
theorem t_spec_NatOk {P : Program} {f n_spec_l01In : Nat} (h : Has P f (c_spec_NatOk n_spec_l01In)) (k_spec_l01In : K_spec_l01In P n_spec_l01In) : K_spec_NatOk P f := by
  intro xs hx
  refine sc_go h (by simp) ?_
  simp -implicitDefEqProofs (disch := omega) only [↓walk, plain, List.length_map, List.getElem?_map, Option.map_some, Nat.reduceBEq, decT, decF, iteT, iteF, wrap_ok, Int.reduceToNat, Int.reduceLE, Int.reduceLT, Int.reduceAdd, Int.reduceSub, Int.reduceNeg, reduceIte, Nat.reduceEqDiff, Nat.reduceAdd, Nat.reduceSub, Nat.reduceMul, Nat.reduceLeDiff, Nat.reduceShiftRight, Nat.reduceMod, reduceCtorEq, ints]
  refine go_loopm 32660 (by first | rfl | (simp only [mods, modsL, modsD, optB]; rfl)) (fun k fr H n => ∃ i : Nat, i + k = xs.length ∧ fr 7 = .i .i64 i ∧ Dig (xs.take i)) xs.length ?_ ?_
  · simp -implicitDefEqProofs (disch := omega) only [↓walk, plain, List.length_map, List.getElem?_map, Option.map_some, Nat.reduceBEq, decT, decF, iteT, iteF, wrap_ok, Int.reduceToNat, Int.reduceLE, Int.reduceLT, Int.reduceAdd, Int.reduceSub, Int.reduceNeg, reduceIte, Nat.reduceEqDiff, Nat.reduceAdd, Nat.reduceSub, Nat.reduceMul, Nat.reduceLeDiff, Nat.reduceShiftRight, Nat.reduceMod, reduceCtorEq]
    exact ⟨0, by omega, rfl, by simp [Dig]⟩
  · rintro k fr H n ⟨i, hk, f7, hd⟩
    simp -implicitDefEqProofs (disch := omega) only [↓walk, plain, List.length_map, List.getElem?_map, Option.map_some, Nat.reduceBEq, iteT, iteF, wrap_ok, Int.reduceToNat, Int.reduceLE, Int.reduceLT, Int.reduceAdd, Int.reduceSub, Int.reduceNeg, reduceIte, Nat.reduceEqDiff, Nat.reduceAdd, Nat.reduceSub, Nat.reduceMul, Nat.reduceLeDiff, Nat.reduceShiftRight, Nat.reduceMod, reduceCtorEq, f7]
    refine goC_dec (fun h0 => ?_) (fun h0 => ?_)
    · obtain ⟨a, ha⟩ := getc (xs := xs) (i := i) (by omega)
      simp -implicitDefEqProofs (disch := omega) only [↓walk, plain, List.length_map, List.getElem?_map, Option.map_some, Nat.reduceBEq, decT, decF, iteT, iteF, wrap_ok, Int.reduceToNat, Int.reduceLE, Int.reduceLT, Int.reduceAdd, Int.reduceSub, Int.reduceNeg, reduceIte, Nat.reduceEqDiff, Nat.reduceAdd, Nat.reduceSub, Nat.reduceMul, Nat.reduceLeDiff, Nat.reduceShiftRight, Nat.reduceMod, reduceCtorEq, f7, ha]
      refine goCall_sc (k_spec_l01In a 0 999999999) (by repeat (first | exact vws_nil | refine vws_cons ?_ ?_ | exact vw_bb | exact vw_ii | exact vw_ss | exact vw_ints | exact vw_ints0 | exact vw_nn | exact vw_n0 | exact vwl_nil | refine vwl_cons ?_ ?_ | refine vw_agg ?_ | refine vw_fn ?_ | assumption)) ?_
      by_cases ha1 : 0 ≤ a ∧ a ≤ 999999999
      · simp -implicitDefEqProofs (disch := omega) only [↓walk, plain, List.length_map, List.getElem?_map, Option.map_some, Nat.reduceBEq, decT, decF, iteT, iteF, wrap_ok, Int.reduceToNat, Int.reduceLE, Int.reduceLT, Int.reduceAdd, Int.reduceSub, Int.reduceNeg, reduceIte, Nat.reduceEqDiff, Nat.reduceAdd, Nat.reduceSub, Nat.reduceMul, Nat.reduceLeDiff, Nat.reduceShiftRight, Nat.reduceMod, reduceCtorEq, f7]
        exact ⟨k - 1, by omega, i + 1, by omega, rfl, dig_snoc_take hd ha (by omega) (by omega)⟩
      · simp -implicitDefEqProofs (disch := omega) only [↓walk, plain, List.length_map, List.getElem?_map, Option.map_some, Nat.reduceBEq, decT, decF, iteT, iteF, wrap_ok, Int.reduceToNat, Int.reduceLE, Int.reduceLT, Int.reduceAdd, Int.reduceSub, Int.reduceNeg, reduceIte, Nat.reduceEqDiff, Nat.reduceAdd, Nat.reduceSub, Nat.reduceMul, Nat.reduceLeDiff, Nat.reduceShiftRight, Nat.reduceMod, reduceCtorEq]
        exact data_b (nok_f (xs := xs) fun hn => ha1 (by have := hn.2.1.at ha; omega)).symm
    · rw [take_all (by omega)] at hd
      by_cases h1 : xs.length ≤ 60
      · by_cases h2 : xs.length = 0
        · simp -implicitDefEqProofs (disch := omega) only [↓walk, plain, List.length_map, List.getElem?_map, Option.map_some, Nat.reduceBEq, decT, decF, iteT, iteF, wrap_ok, Int.reduceToNat, Int.reduceLE, Int.reduceLT, Int.reduceAdd, Int.reduceSub, Int.reduceNeg, reduceIte, Nat.reduceEqDiff, Nat.reduceAdd, Nat.reduceSub, Nat.reduceMul, Nat.reduceLeDiff, Nat.reduceShiftRight, Nat.reduceMod, reduceCtorEq]
          have : xs = [] := List.length_eq_zero_iff.1 h2
          subst this
          exact data_b (nok_t (xs := []) ⟨by simp, Dig.nil, fun a ha => by simp at ha⟩).symm
        · obtain ⟨z, hz⟩ := getc (xs := xs) (i := xs.length - 1) (by omega)
          have e1 : (xs.length : Int) - 1 = ((xs.length - 1 : Nat) : Int) := by omega
          by_cases h3 : z = 0
          · simp -implicitDefEqProofs (disch := omega) only [↓walk, plain, List.length_map, List.getElem?_map, Option.map_some, Nat.reduceBEq, decT, decF, iteT, iteF, wrap_ok, Int.reduceToNat, Int.reduceLE, Int.reduceLT, Int.reduceAdd, Int.reduceSub, Int.reduceNeg, reduceIte, Nat.reduceEqDiff, Nat.reduceAdd, Nat.reduceSub, Nat.reduceMul, Nat.reduceLeDiff, Nat.reduceShiftRight, Nat.reduceMod, reduceCtorEq, e1, hz]
            exact data_b (nok_f (xs := xs) fun hn => hn.2.2 z hz h3).symm
          · simp -implicitDefEqProofs (disch := omega) only [↓walk, plain, List.length_map, List.getElem?_map, Option.map_some, Nat.reduceBEq, decT, decF, iteT, iteF, wrap_ok, Int.reduceToNat, Int.reduceLE, Int.reduceLT, Int.reduceAdd, Int.reduceSub, Int.reduceNeg, reduceIte, Nat.reduceEqDiff, Nat.reduceAdd, Nat.reduceSub, Nat.reduceMul, Nat.reduceLeDiff, Nat.reduceShiftRight, Nat.reduceMod, reduceCtorEq, e1, hz]
            refine data_b (nok_t (xs := xs) ⟨by omega, hd, fun a ha => ?_⟩).symm
            rw [hz] at ha; cases ha; exact h3
      · simp -implicitDefEqProofs (disch := omega) only [↓walk, plain, List.length_map, List.getElem?_map, Option.map_some, Nat.reduceBEq, decT, decF, iteT, iteF, wrap_ok, Int.reduceToNat, Int.reduceLE, Int.reduceLT, Int.reduceAdd, Int.reduceSub, Int.reduceNeg, reduceIte, Nat.reduceEqDiff, Nat.reduceAdd, Nat.reduceSub, Nat.reduceMul, Nat.reduceLeDiff, Nat.reduceShiftRight, Nat.reduceMod, reduceCtorEq]
        exact data_b (nok_f (xs := xs) fun hn => h1 hn.1).symm
def c_spec_l04One : AF := ⟨12, .seq (.ops [⟨(some 2), .mv (.c (.b false)), none, []⟩])
  (.seq (.ops [⟨(some 3), .mv (.t 0), none, []⟩,
   ⟨(some 4), .len (.t 3), none, []⟩,
   ⟨(some 5), .bin .eql (.t 4) (.c (.i .i64 1)), none, []⟩,
   ⟨(some 6), .mv (.t 5), none, []⟩,
   ⟨(some 7), .mv (.t 0), some (6, true), []⟩,
   ⟨(some 8), .iad 1 (.t 7) (.c (.i .i64 0)), some (6, true), []⟩,
   ⟨(some 9), .ld none (.t 8), some (6, true), []⟩,
   ⟨(some 10), .bin .eql (.t 9) (.c (.i .i64 1)), some (6, true), []⟩,
   ⟨(some 11), .pick (.t 6) (.t 10) (.c (.b false)), none, []⟩,
   ⟨(some 2), .mv (.t 11), none, []⟩])
  (.ret)), [.t 2]⟩
def K_spec_l04One (P : Program) (f : Nat) : Prop := ∀ xs : List Int, xs.length < 9223372036854775808 → SC P f [ints xs] (.b (decide (xs = [1])))
theorem t_spec_l04One {P : Program} {f : Nat} (h : Has P f c_spec_l04One) : K_spec_l04One P f := by
  intro xs hx
  refine sc_go h (by simp) ?_
  cases xs with
  | nil =>
    simp -implicitDefEqProofs (disch := omega) only [↓walk, plain, List.length_map, List.getElem?_map, Option.map_some, Nat.reduceBEq, decT, decF, iteT, iteF, wrap_ok, Int.reduceToNat, Int.reduceLE, Int.reduceLT, Int.reduceAdd, Int.reduceSub, Int.reduceNeg, reduceIte, Nat.reduceEqDiff, Nat.reduceAdd, Nat.reduceSub, Nat.reduceMul, Nat.reduceLeDiff, Nat.reduceShiftRight, Nat.reduceMod, reduceCtorEq, ints, List.map_nil, Int.reduceBEq]
    exact data_b (by simp)
  | cons a r =>
    cases r with
    | nil =>
      simp -implicitDefEqProofs (disch := omega) only [↓walk, plain, List.length_map, List.getElem?_map, Option.map_some, Nat.reduceBEq, decT, decF, iteT, iteF, wrap_ok, Int.reduceToNat, Int.reduceLE, Int.reduceLT, Int.reduceAdd, Int.reduceSub, Int.reduceNeg, reduceIte, Nat.reduceEqDiff, Nat.reduceAdd, Nat.reduceSub, Nat.reduceMul, Nat.reduceLeDiff, Nat.reduceShiftRight, Nat.reduceMod, reduceCtorEq, ints, List.map_cons, List.map_nil, Int.reduceToNat]
      exact data_b (by simp)
    | cons b r =>
      simp -implicitDefEqProofs (disch := omega) only [↓walk, plain, List.length_map, List.getElem?_map, Option.map_some, Nat.reduceBEq, decT, decF, iteT, iteF, wrap_ok, Int.reduceToNat, Int.reduceLE, Int.reduceLT, Int.reduceAdd, Int.reduceSub, Int.reduceNeg, reduceIte, Nat.reduceEqDiff, Nat.reduceAdd, Nat.reduceSub, Nat.reduceMul, Nat.reduceLeDiff, Nat.reduceShiftRight, Nat.reduceMod, reduceCtorEq, ints, List.map_cons, List.map_nil]
      exact data_b (by simp)
def c_spec_NatOf : AF := ⟨15, .seq (.ops [⟨(some 2), .mv (.c .nl), none, []⟩])
  (.seq (.ops [⟨(some 4), .bsl (.i .i64 0) 0 [], none, []⟩,
   ⟨(some 3), .mv (.t 4), none, []⟩])
  (.seq (.block 0 (.loop (.seq (.seq (.ops [⟨(some 5), .mv (.t 0), none, []⟩,
   ⟨(some 6), .bin .gtr (.t 5) (.c (.i .i64 0)), none, []⟩])
  (.cond (.t 6)
  (.skip)
  (.exit 0)))
  (.block 1 (.seq (.ops [⟨(some 7), .mv (.t 3), none, []⟩,
   ⟨(some 8), .mv (.t 0), none, []⟩,
   ⟨(some 9), .bin .rem (.t 8) (.c (.i .i64 1000000000)), none, []⟩,
   ⟨(some 10), .bsl (.i .i64 0) 1 [(0, (.t 9))], none, []⟩,
   ⟨(some 11), .app 1 8 (.t 7) (.t 10), none, []⟩,
   ⟨(some 3), .mv (.t 11), none, []⟩])
  (.ops [⟨(some 12), .mv (.t 0), none, []⟩,
   ⟨(some 13), .bin .quo (.t 12) (.c (.i .i64 1000000000)), none, []⟩,
   ⟨(some 0), .mv (.t 13), none, []⟩]))))))
  (.seq (.ops [⟨(some 14), .mv (.t 3), none, []⟩,
   ⟨(some 2), .mv (.t 14), none, []⟩])
  (.ret)))), [.t 2]⟩
def K_spec_NatOf (P : Program) (f : Nat) : Prop := ∀ z : Int, z < 9223372036854775808 → OCI P f [.i .i64 z] (limbs z.toNat)
theorem t_spec_NatOf {P : Program} {f : Nat} (h : Has P f c_spec_NatOf) : K_spec_NatOf P f := by
  intro z hz n
  refine mc_go h (by simp) ?_
  simp -implicitDefEqProofs (disch := omega) only [↓walk, plain, List.length_map, List.getElem?_map, Option.map_some, Nat.reduceBEq, decT, decF, iteT, iteF, wrap_ok, Int.reduceToNat, Int.reduceLE, Int.reduceLT, Int.reduceAdd, Int.reduceSub, Int.reduceNeg, reduceIte, Nat.reduceEqDiff, Nat.reduceAdd, Nat.reduceSub, Nat.reduceMul, Nat.reduceLeDiff, Nat.reduceShiftRight, Nat.reduceMod, reduceCtorEq, maxB]
  have hlen : (limbs z.toNat).length ≤ 4 := by rw [limbs_len_lt]; simp only [pw]; omega
  refine go_loopm 16361 (by first | rfl | (simp only [mods, modsL, modsD, optB]; rfl)) (fun k fr H' n' => ∃ (q : Int) (ds : List Int), fr 0 = .i .i64 q ∧ q < 9223372036854775808 ∧ k = q.toNat ∧ n ≤ n' ∧ ds ++ limbs q.toNat = limbs z.toNat ∧ LR n n' (fr 3) H' ds) z.toNat ?_ ?_
  · simp -implicitDefEqProofs (disch := omega) only [↓walk, plain, List.length_map, List.getElem?_map, Option.map_some, Nat.reduceBEq, decT, decF, iteT, iteF, wrap_ok, Int.reduceToNat, Int.reduceLE, Int.reduceLT, Int.reduceAdd, Int.reduceSub, Int.reduceNeg, reduceIte, Nat.reduceEqDiff, Nat.reduceAdd, Nat.reduceSub, Nat.reduceMul, Nat.reduceLeDiff, Nat.reduceShiftRight, Nat.reduceMod, reduceCtorEq]
    exact ⟨z, [], rfl, hz, rfl, by omega, rfl, LR.mk0 (by omega) (by omega)⟩
  · rintro k fr H' n' ⟨q, ds, f0, hq, rfl, hn, hd, hL⟩
    simp -implicitDefEqProofs (disch := omega) only [↓walk, plain, List.length_map, List.getElem?_map, Option.map_some, Nat.reduceBEq, decT, decF, iteT, iteF, wrap_ok, Int.reduceToNat, Int.reduceLE, Int.reduceLT, Int.reduceAdd, Int.reduceSub, Int.reduceNeg, reduceIte, Nat.reduceEqDiff, Nat.reduceAdd, Nat.reduceSub, Nat.reduceMul, Nat.reduceLeDiff, Nat.reduceShiftRight, Nat.reduceMod, reduceCtorEq, f0]
    refine goC_dec (fun h0 => ?_) (fun h0 => ?_)
    · have e1 : IntKind.i64.wrap (Int.tdiv q 1000000000) = ((q.toNat / 1000000000 : Nat) : Int) := by
        rw [Int.tdiv_eq_ediv_of_nonneg (by omega), wrap_ok (by omega) (by omega)]; omega
      have e2 : Int.tmod q 1000000000 = ((q.toNat % 1000000000 : Nat) : Int) := by
        rw [Int.tmod_eq_emod_of_nonneg (by omega)]; omega
      have hd2 : (ds ++ [((q.toNat % 1000000000 : Nat) : Int)]) ++ limbs (q.toNat / 1000000000) = limbs z.toNat := by
        rw [← hd, limbs_pos (n := q.toNat) (by omega)]; simp
      have hl2 : ds.length + 1 ≤ 4 := by
        have := congrArg List.length hd2
        simp only [List.length_append, List.length_cons, List.length_nil] at this
        omega
      obtain ⟨T, hT, hT2, f3, hHT⟩ := hL
      simp -implicitDefEqProofs (disch := omega) only [↓walk, plain, List.length_map, List.getElem?_map, Option.map_some, Nat.reduceBEq, decT, decF, iteT, iteF, wrap_ok, Int.reduceToNat, Int.reduceLE, Int.reduceLT, Int.reduceAdd, Int.reduceSub, Int.reduceNeg, reduceIte, Nat.reduceEqDiff, Nat.reduceAdd, Nat.reduceSub, Nat.reduceMul, Nat.reduceLeDiff, Nat.reduceShiftRight, Nat.reduceMod, reduceCtorEq, f0, f3, e1, e2, hHT, List.isEmpty_cons, maxB, List.length_map]
      refine ⟨q.toNat / 1000000000, by omega, _, _, rfl, ?_, ?_, ?_, ?_, LR.snoc ?_ ?_⟩
      any_goals omega
      rw [Int.toNat_natCast]; exact hd2
    · have : q.toNat = 0 := by omega
      rw [this, limbs_zero, List.append_nil] at hd
      subst hd
      simp -implicitDefEqProofs (disch := omega) only [↓walk, plain, List.length_map, List.getElem?_map, Option.map_some, Nat.reduceBEq, decT, decF, iteT, iteF, wrap_ok, Int.reduceToNat, Int.reduceLE, Int.reduceLT, Int.reduceAdd, Int.reduceSub, Int.reduceNeg, reduceIte, Nat.reduceEqDiff, Nat.reduceAdd, Nat.reduceSub, Nat.reduceMul, Nat.reduceLeDiff, Nat.reduceShiftRight, Nat.reduceMod, reduceCtorEq]
      exact hL.own
end Go.Am
/-! Walks: the reference's lists of limbs. -/
namespace Go.Am
set_option linter.unusedVariables false
set_option linter.unusedSimpArgs false
set_option maxRecDepth 10000
set_option maxHeartbeats 4000000
def c_spec_l02Cmp : AF := ⟨41, .seq (.ops [⟨(some 4), .mv (.c (.i .i64 0)), none, []⟩])
  (.seq (.seq (.ops [⟨(some 6), .mv (.t 0), none, []⟩,
   ⟨(some 7), .len (.t 6), none, []⟩,
   ⟨(some 8), .mv (.t 1), none, []⟩,
   ⟨(some 9), .len (.t 8), none, []⟩,
   ⟨(some 10), .bin .neq (.t 7) (.t 9), none, []⟩])
  (.cond (.t 10)
  (.seq (.seq (.ops [⟨(some 11), .mv (.t 0), none, []⟩,
    ⟨(some 12), .len (.t 11), none, []⟩,
    ⟨(some 13), .mv (.t 1), none, []⟩,
    ⟨(some 14), .len (.t 13), none, []⟩,
    ⟨(some 15), .bin .lss (.t 12) (.t 14), none, []⟩])
   (.cond (.t 15)
   (.seq (.ops [⟨(some 4), .mv (.c (.i .i64 (-1))), none, []⟩])
    (.ret))
   (.skip)))
   (.seq (.ops [⟨(some 4), .mv (.c (.i .i64 1)), none, []⟩])
   (.ret)))
  (.skip)))
  (.seq (.seq (.ops [⟨(some 16), .mv (.t 0), none, []⟩,
   ⟨(some 17), .len (.t 16), none, []⟩,
   ⟨(some 18), .bin .sub (.t 17) (.c (.i .i64 1)), none, []⟩,
   ⟨(some 5), .mv (.t 18), none, []⟩])
  (.block 0 (.loop (.seq (.seq (.ops [⟨(some 19), .mv (.t 5), none, []⟩,
   ⟨(some 20), .bin .geq (.t 19) (.c (.i .i64 0)), none, []⟩])
  (.cond (.t 20)
  (.skip)
  (.exit 0)))
  (.seq (.block 1 (.seq (.seq (.opsd [(0, ⟨(some 23), .mv (.t 0), none, []⟩),
   (1, ⟨(some 24), .mv (.t 5), none, []⟩),
   (2, ⟨(some 25), .iad 1 (.t 23) (.t 24), none, []⟩),
   (3, ⟨(some 26), .ld none (.t 25), none, []⟩),
   (4, ⟨(some 27), .mv (.t 1), none, []⟩),
   (5, ⟨(some 28), .mv (.t 5), none, []⟩),
   (6, ⟨(some 29), .iad 1 (.t 27) (.t 28), none, []⟩),
   (7, ⟨(some 30), .ld none (.t 29), none, []⟩),
   (8, ⟨(some 31), .bin .lss (.t 26) (.t 30), none, []⟩)])
  (.cond (.t 31)
  (.seq (.ops [⟨(some 4), .mv (.c (.i .i64 (-1))), none, []⟩])
   (.ret))
  (.skip)))
  (.seq (.opsd [(0, ⟨(some 32), .mv (.t 0), none, []⟩),
   (1, ⟨(some 33), .mv (.t 5), none, []⟩),
   (2, ⟨(some 34), .iad 1 (.t 32) (.t 33), none, []⟩),
   (3, ⟨(some 35), .ld none (.t 34), none, []⟩),
   (4, ⟨(some 36), .mv (.t 1), none, []⟩),
   (5, ⟨(some 37), .mv (.t 5), none, []⟩),
   (6, ⟨(some 38), .iad 1 (.t 36) (.t 37), none, []⟩),
   (7, ⟨(some 39), .ld none (.t 38), none, []⟩),
   (8, ⟨(some 40), .bin .gtr (.t 35) (.t 39), none, []⟩)])
  (.cond (.t 40)
  (.seq (.ops [⟨(some 4), .mv (.c (.i .i64 1)), none, []⟩])
   (.ret))
  (.skip)))))
  (.ops [⟨(some 21), .mv (.t 5), none, []⟩,
   ⟨(some 22), .bin .sub (.t 21) (.c (.i .i64 1)), none, []⟩,
   ⟨(some 5), .mv (.t 22), none, []⟩]))))))
  (.seq (.ops [⟨(some 4), .mv (.c (.i .i64 0)), none, []⟩])
  (.ret)))), [.t 4]⟩
def K_spec_l02Cmp (P : Program) (f : Nat) : Prop := ∀ m n : Nat, (limbs m).length ≤ 4096 → (limbs n).length ≤ 4096 → SC P f [ints (limbs m), ints (limbs n)] (.i .i64 (cmpN m n))
theorem t_spec_l02Cmp {P : Program} {f : Nat} (h : Has P f c_spec_l02Cmp) : K_spec_l02Cmp P f := by
  intro m n hm hn
  refine sc_go h (by simp) ?_
  simp -implicitDefEqProofs (disch := omega) only [↓walk, plain, List.length_map, List.getElem?_map, Option.map_some, Nat.reduceBEq, decT, decF, iteT, iteF, wrap_ok, Int.reduceToNat, Int.reduceLE, Int.reduceLT, Int.reduceAdd, Int.reduceSub, Int.reduceNeg, reduceIte, Nat.reduceEqDiff, Nat.reduceAdd, Nat.reduceSub, Nat.reduceMul, Nat.reduceLeDiff, Nat.reduceShiftRight, Nat.reduceMod, reduceCtorEq, ints, List.length_map]
  refine goC_dec (fun hl => ?_) (fun hl => ?_)
  · simp -implicitDefEqProofs (disch := omega) only [↓walk, plain, List.length_map, List.getElem?_map, Option.map_some, Nat.reduceBEq, decT, decF, iteT, iteF, wrap_ok, Int.reduceToNat, Int.reduceLE, Int.reduceLT, Int.reduceAdd, Int.reduceSub, Int.reduceNeg, reduceIte, Nat.reduceEqDiff, Nat.reduceAdd, Nat.reduceSub, Nat.reduceMul, Nat.reduceLeDiff, Nat.reduceShiftRight, Nat.reduceMod, reduceCtorEq]
    refine goC_dec (fun hl => ?_) (fun hl => ?_)
    · simp -implicitDefEqProofs (disch := omega) only [↓walk, plain, List.length_map, List.getElem?_map, Option.map_some, Nat.reduceBEq, decT, decF, iteT, iteF, wrap_ok, Int.reduceToNat, Int.reduceLE, Int.reduceLT, Int.reduceAdd, Int.reduceSub, Int.reduceNeg, reduceIte, Nat.reduceEqDiff, Nat.reduceAdd, Nat.reduceSub, Nat.reduceMul, Nat.reduceLeDiff, Nat.reduceShiftRight, Nat.reduceMod, reduceCtorEq]
      exact data_i (cmpN_lt (len_lt (by omega))).symm
    · simp -implicitDefEqProofs (disch := omega) only [↓walk, plain, List.length_map, List.getElem?_map, Option.map_some, Nat.reduceBEq, decT, decF, iteT, iteF, wrap_ok, Int.reduceToNat, Int.reduceLE, Int.reduceLT, Int.reduceAdd, Int.reduceSub, Int.reduceNeg, reduceIte, Nat.reduceEqDiff, Nat.reduceAdd, Nat.reduceSub, Nat.reduceMul, Nat.reduceLeDiff, Nat.reduceShiftRight, Nat.reduceMod, reduceCtorEq]
      exact data_i (cmpN_gt (len_lt (by omega))).symm
  · have hl : (limbs m).length = (limbs n).length := by omega
    simp -implicitDefEqProofs (disch := omega) only [↓walk, plain, List.length_map, List.getElem?_map, Option.map_some, Nat.reduceBEq, decT, decF, iteT, iteF, wrap_ok, Int.reduceToNat, Int.reduceLE, Int.reduceLT, Int.reduceAdd, Int.reduceSub, Int.reduceNeg, reduceIte, Nat.reduceEqDiff, Nat.reduceAdd, Nat.reduceSub, Nat.reduceMul, Nat.reduceLeDiff, Nat.reduceShiftRight, Nat.reduceMod, reduceCtorEq]
    refine go_loopm 2199022731312 (by first | rfl | (simp only [mods, modsL, modsD, optB]; rfl)) (fun k fr H n2 => k ≤ (limbs m).length ∧ fr 5 = .i .i64 (k - 1) ∧ (limbs m).drop k = (limbs n).drop k) (limbs m).length ?_ ?_
    · simp -implicitDefEqProofs (disch := omega) only [↓walk, plain, List.length_map, List.getElem?_map, Option.map_some, Nat.reduceBEq, decT, decF, iteT, iteF, wrap_ok, Int.reduceToNat, Int.reduceLE, Int.reduceLT, Int.reduceAdd, Int.reduceSub, Int.reduceNeg, reduceIte, Nat.reduceEqDiff, Nat.reduceAdd, Nat.reduceSub, Nat.reduceMul, Nat.reduceLeDiff, Nat.reduceShiftRight, Nat.reduceMod, reduceCtorEq]
      (repeat' first | refine And.intro ?_ ?_ | rfl | omega | assumption | exact trivial | (dsimp only; omega))
      rw [List.drop_length, hl, List.drop_length]
    · rintro k fr H n2 ⟨hk, f5, hd⟩
      simp -implicitDefEqProofs (disch := omega) only [↓walk, plain, List.length_map, List.getElem?_map, Option.map_some, Nat.reduceBEq, decT, decF, iteT, iteF, wrap_ok, Int.reduceToNat, Int.reduceLE, Int.reduceLT, Int.reduceAdd, Int.reduceSub, Int.reduceNeg, reduceIte, Nat.reduceEqDiff, Nat.reduceAdd, Nat.reduceSub, Nat.reduceMul, Nat.reduceLeDiff, Nat.reduceShiftRight, Nat.reduceMod, reduceCtorEq, f5]
      refine goC_dec (fun h0 => ?_) (fun h0 => ?_)
      · obtain ⟨a, ha⟩ := getc (xs := limbs m) (i := k - 1) (by omega)
        obtain ⟨b, hb⟩ := getc (xs := limbs n) (i := k - 1) (by omega)
        have e1 : ((k : Int) - 1) = ((k - 1 : Nat) : Int) := by omega
        have e2 : k - 1 + 1 = k := by omega
        simp -implicitDefEqProofs (disch := omega) only [↓walk, plain, List.length_map, List.getElem?_map, Option.map_some, Nat.reduceBEq, decT, decF, iteT, iteF, wrap_ok, Int.reduceToNat, Int.reduceLE, Int.reduceLT, Int.reduceAdd, Int.reduceSub, Int.reduceNeg, reduceIte, Nat.reduceEqDiff, Nat.reduceAdd, Nat.reduceSub, Nat.reduceMul, Nat.reduceLeDiff, Nat.reduceShiftRight, Nat.reduceMod, reduceCtorEq, f5, e1, List.getElem?_map, ha, hb, Option.map_some]
        refine goC_dec (fun h1 => ?_) (fun h1 => ?_)
        · simp -implicitDefEqProofs (disch := omega) only [↓walk, plain, List.length_map, List.getElem?_map, Option.map_some, Nat.reduceBEq, decT, decF, iteT, iteF, wrap_ok, Int.reduceToNat, Int.reduceLE, Int.reduceLT, Int.reduceAdd, Int.reduceSub, Int.reduceNeg, reduceIte, Nat.reduceEqDiff, Nat.reduceAdd, Nat.reduceSub, Nat.reduceMul, Nat.reduceLeDiff, Nat.reduceShiftRight, Nat.reduceMod, reduceCtorEq]
          exact data_i (cmpN_lt (cmp_limbs hl (by rw [e2]; exact hd) ha hb h1)).symm
        · simp -implicitDefEqProofs (disch := omega) only [↓walk, plain, List.length_map, List.getElem?_map, Option.map_some, Nat.reduceBEq, decT, decF, iteT, iteF, wrap_ok, Int.reduceToNat, Int.reduceLE, Int.reduceLT, Int.reduceAdd, Int.reduceSub, Int.reduceNeg, reduceIte, Nat.reduceEqDiff, Nat.reduceAdd, Nat.reduceSub, Nat.reduceMul, Nat.reduceLeDiff, Nat.reduceShiftRight, Nat.reduceMod, reduceCtorEq, f5, e1, List.getElem?_map, ha, hb, Option.map_some]
          refine goC_dec (fun h2 => ?_) (fun h2 => ?_)
          · simp -implicitDefEqProofs (disch := omega) only [↓walk, plain, List.length_map, List.getElem?_map, Option.map_some, Nat.reduceBEq, decT, decF, iteT, iteF, wrap_ok, Int.reduceToNat, Int.reduceLE, Int.reduceLT, Int.reduceAdd, Int.reduceSub, Int.reduceNeg, reduceIte, Nat.reduceEqDiff, Nat.reduceAdd, Nat.reduceSub, Nat.reduceMul, Nat.reduceLeDiff, Nat.reduceShiftRight, Nat.reduceMod, reduceCtorEq]
            exact data_i (cmpN_gt (cmp_limbs hl.symm (by rw [e2]; exact hd.symm) hb ha h2)).symm
          · simp -implicitDefEqProofs (disch := omega) only [↓walk, plain, List.length_map, List.getElem?_map, Option.map_some, Nat.reduceBEq, decT, decF, iteT, iteF, wrap_ok, Int.reduceToNat, Int.reduceLE, Int.reduceLT, Int.reduceAdd, Int.reduceSub, Int.reduceNeg, reduceIte, Nat.reduceEqDiff, Nat.reduceAdd, Nat.reduceSub, Nat.reduceMul, Nat.reduceLeDiff, Nat.reduceShiftRight, Nat.reduceMod, reduceCtorEq, f5, e1]
            refine ⟨k - 1, ?_⟩
            (repeat' first | refine And.intro ?_ ?_ | rfl | omega | assumption | exact trivial | (dsimp only; omega))
            rw [List.drop_eq_getElem_cons (l := limbs m) (by omega), List.drop_eq_getElem_cons (l := limbs n) (by omega), e2, hd]
            rw [List.getElem?_eq_getElem (by omega)] at ha hb
            have := Option.some.inj ha
            have := Option.some.inj hb
            congr 1; omega
      · simp -implicitDefEqProofs (disch := omega) only [↓walk, plain, List.length_map, List.getElem?_map, Option.map_some, Nat.reduceBEq, decT, decF, iteT, iteF, wrap_ok, Int.reduceToNat, Int.reduceLE, Int.reduceLT, Int.reduceAdd, Int.reduceSub, Int.reduceNeg, reduceIte, Nat.reduceEqDiff, Nat.reduceAdd, Nat.reduceSub, Nat.reduceMul, Nat.reduceLeDiff, Nat.reduceShiftRight, Nat.reduceMod, reduceCtorEq]
        have : k = 0 := by omega
        subst this
        simp only [List.drop_zero] at hd
        rw [limbs_inj hd]
        exact data_i cmpN_eq.symm
def c_spec_l02Trim : AF := ⟨21, .seq (.ops [⟨(some 2), .mv (.c .nl), none, []⟩])
  (.seq (.ops [⟨(some 4), .mv (.t 0), none, []⟩,
   ⟨(some 5), .len (.t 4), none, []⟩,
   ⟨(some 3), .mv (.t 5), none, []⟩])
  (.seq (.block 0 (.loop (.seq (.seq (.ops [⟨(some 6), .mv (.t 3), none, []⟩,
   ⟨(some 7), .bin .gtr (.t 6) (.c (.i .i64 0)), none, []⟩,
   ⟨(some 8), .mv (.t 7), none, []⟩,
   ⟨(some 9), .mv (.t 0), some (8, true), []⟩,
   ⟨(some 10), .mv (.t 3), some (8, true), []⟩,
   ⟨(some 11), .bin .sub (.t 10) (.c (.i .i64 1)), some (8, true), []⟩,
   ⟨(some 12), .iad 1 (.t 9) (.t 11), some (8, true), []⟩,
   ⟨(some 13), .ld none (.t 12), some (8, true), []⟩,
   ⟨(some 14), .bin .eql (.t 13) (.c (.i .i64 0)), some (8, true), []⟩,
   ⟨(some 15), .pick (.t 8) (.t 14) (.c (.b false)), none, []⟩])
  (.cond (.t 15)
  (.skip)
  (.exit 0)))
  (.block 1 (.ops [⟨(some 16), .mv (.t 3), none, []⟩,
   ⟨(some 17), .bin .sub (.t 16) (.c (.i .i64 1)), none, []⟩,
   ⟨(some 3), .mv (.t 17), none, []⟩])))))
  (.seq (.ops [⟨(some 18), .mv (.t 0), none, []⟩,
   ⟨(some 19), .mv (.t 3), none, []⟩,
   ⟨(some 20), .slc 1 (.t 18) none (some (.t 19)), none, []⟩,
   ⟨(some 2), .mv (.t 20), none, []⟩])
  (.ret)))), [.t 2]⟩
def K_spec_l02Trim (P : Program) (f : Nat) : Prop := (∀ (H : Heap) (n t : Nat) (xs : List Int), xs.length < 9223372036854775808 → H t = some (1, xs.map (.i .i64)) → MC P f [.rf t 0 xs.length] H n (fun v H' n' => H' = H ∧ n ≤ n' ∧ ∃ k, k ≤ xs.length ∧ v = .rf t 0 k ∧ TrimAt xs k)) ∧ (∀ (H : Heap) (n : Nat) (u : Option Nat) (xs : List Int), xs.length < 9223372036854775808 → MC P f [.sl u (xs.map (.i .i64))] H n (fun v H' n' => H' = H ∧ n ≤ n' ∧ ∃ k, k ≤ xs.length ∧ v = .sl u ((xs.take k).map (.i .i64)) ∧ TrimAt xs k))
theorem t_spec_l02Trim {P : Program} {f : Nat} (h : Has P f c_spec_l02Trim) : K_spec_l02Trim P f := by
  have hall : ∀ (xs : List Int) (k : Nat), (((xs.map (AV.i .i64)).take k).all fun e => e.cells.length == 1) = true := by
    intro xs k
    rw [List.all_eq_true]
    intro e he
    obtain ⟨a, _, rfl⟩ := List.mem_map.1 (List.mem_of_mem_take he)
    rfl
  refine ⟨?_, ?_⟩
  · intro H n t xs hx hH
    refine mc_go h (by simp) ?_
    simp -implicitDefEqProofs (disch := omega) only [↓walk, plain, List.length_map, List.getElem?_map, Option.map_some, Nat.reduceBEq, decT, decF, iteT, iteF, wrap_ok, Int.reduceToNat, Int.reduceLE, Int.reduceLT, Int.reduceAdd, Int.reduceSub, Int.reduceNeg, reduceIte, Nat.reduceEqDiff, Nat.reduceAdd, Nat.reduceSub, Nat.reduceMul, Nat.reduceLeDiff, Nat.reduceShiftRight, Nat.reduceMod, reduceCtorEq]
    refine go_loopm 262088 (by first | rfl | (simp only [mods, modsL, modsD, optB]; rfl)) (fun k fr H' n' => k ≤ xs.length ∧ fr 3 = .i .i64 k ∧ H' = H ∧ n ≤ n' ∧ (∀ (i : Nat) (a : Int), k ≤ i → xs[i]? = some a → a = 0)) xs.length ?_ ?_
    · (repeat' first | refine And.intro ?_ ?_ | rfl | omega | assumption | exact trivial | (dsimp only; omega))
      intro i a h1 h2
      have := (List.getElem?_eq_some_iff.1 h2).1; omega
    · rintro k fr H' n' ⟨hk, f3, rfl, hn, hz⟩
      simp -implicitDefEqProofs (disch := omega) only [↓walk, plain, List.length_map, List.getElem?_map, Option.map_some, Nat.reduceBEq, decT, decF, iteT, iteF, wrap_ok, Int.reduceToNat, Int.reduceLE, Int.reduceLT, Int.reduceAdd, Int.reduceSub, Int.reduceNeg, reduceIte, Nat.reduceEqDiff, Nat.reduceAdd, Nat.reduceSub, Nat.reduceMul, Nat.reduceLeDiff, Nat.reduceShiftRight, Nat.reduceMod, reduceCtorEq, f3]
      refine goG_dec (fun h0 => ?_) (fun h0 => ?_)
      · obtain ⟨a, ha⟩ := getc (xs := xs) (i := k - 1) (by omega)
        have e1 : ((k : Int) - 1) = ((k - 1 : Nat) : Int) := by omega
        simp -implicitDefEqProofs (disch := omega) only [↓walk, plain, List.length_map, List.getElem?_map, Option.map_some, Nat.reduceBEq, decT, decF, iteT, iteF, wrap_ok, Int.reduceToNat, Int.reduceLE, Int.reduceLT, Int.reduceAdd, Int.reduceSub, Int.reduceNeg, reduceIte, Nat.reduceEqDiff, Nat.reduceAdd, Nat.reduceSub, Nat.reduceMul, Nat.reduceLeDiff, Nat.reduceShiftRight, Nat.reduceMod, reduceCtorEq, f3, e1, hH, List.getElem?_map, ha, Option.map_some]
        refine goC_dec (fun he => ?_) (fun he => ?_)
        · simp -implicitDefEqProofs (disch := omega) only [↓walk, plain, List.length_map, List.getElem?_map, Option.map_some, Nat.reduceBEq, decT, decF, iteT, iteF, wrap_ok, Int.reduceToNat, Int.reduceLE, Int.reduceLT, Int.reduceAdd, Int.reduceSub, Int.reduceNeg, reduceIte, Nat.reduceEqDiff, Nat.reduceAdd, Nat.reduceSub, Nat.reduceMul, Nat.reduceLeDiff, Nat.reduceShiftRight, Nat.reduceMod, reduceCtorEq, f3, e1]
          refine ⟨k - 1, ?_⟩
          (repeat' first | refine And.intro ?_ ?_ | rfl | omega | assumption | exact trivial | (dsimp only; omega))
          intro i b h1 h2
          by_cases h3 : i = k - 1
          · subst h3; rw [ha] at h2; cases h2; exact he
          · exact hz i b (by omega) h2
        · simp -implicitDefEqProofs (disch := omega) only [↓walk, plain, List.length_map, List.getElem?_map, Option.map_some, Nat.reduceBEq, decT, decF, iteT, iteF, wrap_ok, Int.reduceToNat, Int.reduceLE, Int.reduceLT, Int.reduceAdd, Int.reduceSub, Int.reduceNeg, reduceIte, Nat.reduceEqDiff, Nat.reduceAdd, Nat.reduceSub, Nat.reduceMul, Nat.reduceLeDiff, Nat.reduceShiftRight, Nat.reduceMod, reduceCtorEq, f3, hH, List.length_map]
          refine ⟨by omega, k, hk, rfl, hz, .inr ⟨a, ha, he⟩⟩
      · simp -implicitDefEqProofs (disch := omega) only [↓walk, plain, List.length_map, List.getElem?_map, Option.map_some, Nat.reduceBEq, decT, decF, iteT, iteF, wrap_ok, Int.reduceToNat, Int.reduceLE, Int.reduceLT, Int.reduceAdd, Int.reduceSub, Int.reduceNeg, reduceIte, Nat.reduceEqDiff, Nat.reduceAdd, Nat.reduceSub, Nat.reduceMul, Nat.reduceLeDiff, Nat.reduceShiftRight, Nat.reduceMod, reduceCtorEq, f3, hH, List.length_map]
        exact ⟨by omega, k, hk, rfl, hz, .inl (by omega)⟩
  · intro H n u xs hx
    refine mc_go h (by simp) ?_
    simp -implicitDefEqProofs (disch := omega) only [↓walk, plain, List.length_map, List.getElem?_map, Option.map_some, Nat.reduceBEq, decT, decF, iteT, iteF, wrap_ok, Int.reduceToNat, Int.reduceLE, Int.reduceLT, Int.reduceAdd, Int.reduceSub, Int.reduceNeg, reduceIte, Nat.reduceEqDiff, Nat.reduceAdd, Nat.reduceSub, Nat.reduceMul, Nat.reduceLeDiff, Nat.reduceShiftRight, Nat.reduceMod, reduceCtorEq]
    refine go_loopm 262088 (by first | rfl | (simp only [mods, modsL, modsD, optB]; rfl)) (fun k fr H' n' => k ≤ xs.length ∧ fr 3 = .i .i64 k ∧ H' = H ∧ n ≤ n' ∧ (∀ (i : Nat) (a : Int), k ≤ i → xs[i]? = some a → a = 0)) xs.length ?_ ?_
    · (repeat' first | refine And.intro ?_ ?_ | rfl | omega | assumption | exact trivial | (dsimp only; omega))
      intro i a h1 h2
      have := (List.getElem?_eq_some_iff.1 h2).1; omega
    · rintro k fr H' n' ⟨hk, f3, rfl, hn, hz⟩
      simp -implicitDefEqProofs (disch := omega) only [↓walk, plain, List.length_map, List.getElem?_map, Option.map_some, Nat.reduceBEq, decT, decF, iteT, iteF, wrap_ok, Int.reduceToNat, Int.reduceLE, Int.reduceLT, Int.reduceAdd, Int.reduceSub, Int.reduceNeg, reduceIte, Nat.reduceEqDiff, Nat.reduceAdd, Nat.reduceSub, Nat.reduceMul, Nat.reduceLeDiff, Nat.reduceShiftRight, Nat.reduceMod, reduceCtorEq, f3]
      refine goG_dec (fun h0 => ?_) (fun h0 => ?_)
      · obtain ⟨a, ha⟩ := getc (xs := xs) (i := k - 1) (by omega)
        have e1 : ((k : Int) - 1) = ((k - 1 : Nat) : Int) := by omega
        simp -implicitDefEqProofs (disch := omega) only [↓walk, plain, List.length_map, List.getElem?_map, Option.map_some, Nat.reduceBEq, decT, decF, iteT, iteF, wrap_ok, Int.reduceToNat, Int.reduceLE, Int.reduceLT, Int.reduceAdd, Int.reduceSub, Int.reduceNeg, reduceIte, Nat.reduceEqDiff, Nat.reduceAdd, Nat.reduceSub, Nat.reduceMul, Nat.reduceLeDiff, Nat.reduceShiftRight, Nat.reduceMod, reduceCtorEq, f3, e1, List.getElem?_map, ha, Option.map_some]
        refine goC_dec (fun he => ?_) (fun he => ?_)
        · simp -implicitDefEqProofs (disch := omega) only [↓walk, plain, List.length_map, List.getElem?_map, Option.map_some, Nat.reduceBEq, decT, decF, iteT, iteF, wrap_ok, Int.reduceToNat, Int.reduceLE, Int.reduceLT, Int.reduceAdd, Int.reduceSub, Int.reduceNeg, reduceIte, Nat.reduceEqDiff, Nat.reduceAdd, Nat.reduceSub, Nat.reduceMul, Nat.reduceLeDiff, Nat.reduceShiftRight, Nat.reduceMod, reduceCtorEq, f3, e1]
          refine ⟨k - 1, ?_⟩
          (repeat' first | refine And.intro ?_ ?_ | rfl | omega | assumption | exact trivial | (dsimp only; omega))
          intro i b h1 h2
          by_cases h3 : i = k - 1
          · subst h3; rw [ha] at h2; cases h2; exact he
          · exact hz i b (by omega) h2
        · simp -implicitDefEqProofs (disch := omega) only [↓walk, plain, List.length_map, List.getElem?_map, Option.map_some, Nat.reduceBEq, decT, decF, iteT, iteF, wrap_ok, Int.reduceToNat, Int.reduceLE, Int.reduceLT, Int.reduceAdd, Int.reduceSub, Int.reduceNeg, reduceIte, Nat.reduceEqDiff, Nat.reduceAdd, Nat.reduceSub, Nat.reduceMul, Nat.reduceLeDiff, Nat.reduceShiftRight, Nat.reduceMod, reduceCtorEq, f3, hall, List.length_map]
          refine ⟨by omega, k, hk, by rw [List.map_take], hz, .inr ⟨a, ha, he⟩⟩
      · simp -implicitDefEqProofs (disch := omega) only [↓walk, plain, List.length_map, List.getElem?_map, Option.map_some, Nat.reduceBEq, decT, decF, iteT, iteF, wrap_ok, Int.reduceToNat, Int.reduceLE, Int.reduceLT, Int.reduceAdd, Int.reduceSub, Int.reduceNeg, reduceIte, Nat.reduceEqDiff, Nat.reduceAdd, Nat.reduceSub, Nat.reduceMul, Nat.reduceLeDiff, Nat.reduceShiftRight, Nat.reduceMod, reduceCtorEq, f3, hall, List.length_map]
        exact ⟨by omega, k, hk, by rw [List.map_take], hz, .inl (by omega)⟩

def c_spec_l02Cap (n_spec_l02Trim : Nat) : AF := ⟨10, .seq (.ops [⟨(some 2), .mv (.c .nl), none, []⟩])
  (.seq (.ops [⟨(some 4), .mv (.t 0), none, []⟩,
   ⟨(some 5), .call true n_spec_l02Trim [(.t 4)], none, []⟩,
   ⟨(some 3), .mv (.t 5), none, []⟩])
  (.seq (.seq (.ops [⟨(some 6), .mv (.t 3), none, []⟩,
   ⟨(some 7), .len (.t 6), none, []⟩,
   ⟨(some 8), .bin .gtr (.t 7) (.c (.i .i64 60)), none, []⟩])
  (.cond (.t 8)
  (.seq (.ops [⟨(some 2), .mv (.c .nl), none, []⟩])
   (.ret))
  (.skip)))
  (.seq (.ops [⟨(some 9), .mv (.t 3), none, []⟩,
   ⟨(some 2), .mv (.t 9), none, []⟩])
  (.ret)))), [.t 2]⟩
def K_spec_l02Cap (P : Program) (f : Nat) : Prop := ∀ (H : Heap) (n : Nat) (u : Option Nat) (xs : List Int) (m : Nat), Dig xs → val xs = m → xs.length < 9223372036854775808 → (limbs m).length ≤ 60 → MC P f [.sl u (xs.map (.i .i64))] H n (fun v H' n' => H' = H ∧ n ≤ n' ∧ v = .sl u ((limbs m).map (.i .i64)))
theorem t_spec_l02Cap {P : Program} {f n_spec_l02Trim : Nat} (h : Has P f (c_spec_l02Cap n_spec_l02Trim)) (k_spec_l02Trim : K_spec_l02Trim P n_spec_l02Trim) : K_spec_l02Cap P f := by
  intro H n u xs m hd hv hx hm
  refine mc_go h (by simp) ?_
  simp -implicitDefEqProofs (disch := omega) only [↓walk, plain, List.length_map, List.getElem?_map, Option.map_some, Nat.reduceBEq, decT, decF, iteT, iteF, wrap_ok, Int.reduceToNat, Int.reduceLE, Int.reduceLT, Int.reduceAdd, Int.reduceSub, Int.reduceNeg, reduceIte, Nat.reduceEqDiff, Nat.reduceAdd, Nat.reduceSub, Nat.reduceMul, Nat.reduceLeDiff, Nat.reduceShiftRight, Nat.reduceMod, reduceCtorEq]
  refine goCall_mc0 (k_spec_l02Trim.2 _ _ u xs hx) ?_
  rintro v H2 n2 ⟨rfl, hn2, k, hk, rfl, ht⟩
  rw [trim_val hd hv hk ht.1 ht.2]
  simp -implicitDefEqProofs (disch := omega) only [↓walk, plain, List.length_map, List.getElem?_map, Option.map_some, Nat.reduceBEq, decT, decF, iteT, iteF, wrap_ok, Int.reduceToNat, Int.reduceLE, Int.reduceLT, Int.reduceAdd, Int.reduceSub, Int.reduceNeg, reduceIte, Nat.reduceEqDiff, Nat.reduceAdd, Nat.reduceSub, Nat.reduceMul, Nat.reduceLeDiff, Nat.reduceShiftRight, Nat.reduceMod, reduceCtorEq]
  omega
def c_spec_l03Make (n_spec_l02Cap : Nat) : AF := ⟨18, .seq (.ops [⟨(some 4), .new (.agg [(.b false), .nl]), none, []⟩])
  (.seq (.ops [⟨(some 6), .mv (.t 1), none, []⟩,
   ⟨(some 7), .call true n_spec_l02Cap [(.t 6)], none, []⟩,
   ⟨(some 5), .mv (.t 7), none, []⟩])
  (.seq (.ops [⟨(some 8), .mv (.t 0), none, []⟩,
   ⟨(some 9), .mv (.t 8), none, []⟩,
   ⟨(some 10), .mv (.t 5), some (9, true), []⟩,
   ⟨(some 11), .len (.t 10), some (9, true), []⟩,
   ⟨(some 12), .bin .gtr (.t 11) (.c (.i .i64 0)), some (9, true), []⟩,
   ⟨(some 13), .pick (.t 9) (.t 12) (.c (.b false)), none, []⟩,
   ⟨(some 14), .bsl (.i .i64 0) 0 [], none, []⟩,
   ⟨(some 15), .mv (.t 5), none, []⟩,
   ⟨(some 16), .app 1 8 (.t 14) (.t 15), none, []⟩,
   ⟨(some 17), .bld [(.b false), .nl] [(0, 1, (.t 13)), (1, 1, (.t 16))], none, []⟩,
   ⟨none, .st (some 2) (.t 4) (.t 17), none, []⟩])
  (.ret))), [.cell (some 2) 4]⟩
def K_spec_l03Make (P : Program) (f : Nat) : Prop := ∀ (b : Bool) (xs : List Int) (m : Nat), Dig xs → val xs = m → xs.length < 9223372036854775808 → (limbs m).length ≤ 60 → PC P f [.b b, ints xs] (fun n => .agg [.b (b && decide (m ≠ 0)), .sl (some n) ((limbs m).map (.i .i64))]) 1 False
theorem t_spec_l03Make {P : Program} {f n_spec_l02Cap : Nat} (h : Has P f (c_spec_l03Make n_spec_l02Cap)) (k_spec_l02Cap : K_spec_l02Cap P n_spec_l02Cap) : K_spec_l03Make P f := by
  intro b xs m hd hv hx hm
  refine pc_go h (by simp) ?_
  simp -implicitDefEqProofs (disch := omega) only [↓walk, plain, List.length_map, List.getElem?_map, Option.map_some, Nat.reduceBEq, decT, decF, iteT, iteF, wrap_ok, Int.reduceToNat, Int.reduceLE, Int.reduceLT, Int.reduceAdd, Int.reduceSub, Int.reduceNeg, reduceIte, Nat.reduceEqDiff, Nat.reduceAdd, Nat.reduceSub, Nat.reduceMul, Nat.reduceLeDiff, Nat.reduceShiftRight, Nat.reduceMod, reduceCtorEq, ints]
  refine goCall_mc0 (k_spec_l02Cap _ _ none xs m hd hv hx hm) ?_
  rintro v H2 n2 ⟨rfl, hn2, rfl⟩
  have e2 : ∀ xs : List Int, (xs.map (AV.i .i64)).all (fun y => y.cells.length == 1 && y.cells.all cellOk) = true := by intro xs; simp [AV.cells, cellOk]
  have e3 : 0 < (limbs m).length ↔ m ≠ 0 := by rw [List.length_pos_iff]; exact not_congr limbs_nil
  by_cases h0 : m = 0
  · subst h0
    cases b
    · simp -implicitDefEqProofs (disch := omega) only [↓walk, plain, List.length_map, List.getElem?_map, Option.map_some, Nat.reduceBEq, decT, decF, iteT, iteF, wrap_ok, Int.reduceToNat, Int.reduceLE, Int.reduceLT, Int.reduceAdd, Int.reduceSub, Int.reduceNeg, reduceIte, Nat.reduceEqDiff, Nat.reduceAdd, Nat.reduceSub, Nat.reduceMul, Nat.reduceLeDiff, Nat.reduceShiftRight, Nat.reduceMod, reduceCtorEq, limbs_zero, List.map_nil, List.isEmpty_nil, maxB]
      exact (fz_agg (fzl_cons fz_b (fzl_cons (fz_ints_rf (xs := []) (by simp -implicitDefEqProofs (disch := omega) only [↓walk, plain, List.length_map, List.getElem?_map, Option.map_some, Nat.reduceBEq, decT, decF, iteT, iteF, wrap_ok, Int.reduceToNat, Int.reduceLE, Int.reduceLT, Int.reduceAdd, Int.reduceSub, Int.reduceNeg, reduceIte, Nat.reduceEqDiff, Nat.reduceAdd, Nat.reduceSub, Nat.reduceMul, Nat.reduceLeDiff, Nat.reduceShiftRight, Nat.reduceMod, reduceCtorEq]; rfl) rfl rfl) fzl_nil))).data (by simp)
    · simp -implicitDefEqProofs (disch := omega) only [↓walk, plain, List.length_map, List.getElem?_map, Option.map_some, Nat.reduceBEq, decT, decF, iteT, iteF, wrap_ok, Int.reduceToNat, Int.reduceLE, Int.reduceLT, Int.reduceAdd, Int.reduceSub, Int.reduceNeg, reduceIte, Nat.reduceEqDiff, Nat.reduceAdd, Nat.reduceSub, Nat.reduceMul, Nat.reduceLeDiff, Nat.reduceShiftRight, Nat.reduceMod, reduceCtorEq, limbs_zero, List.map_nil, List.isEmpty_nil, maxB]
      exact (fz_agg (fzl_cons fz_b (fzl_cons (fz_ints_rf (xs := []) (by simp -implicitDefEqProofs (disch := omega) only [↓walk, plain, List.length_map, List.getElem?_map, Option.map_some, Nat.reduceBEq, decT, decF, iteT, iteF, wrap_ok, Int.reduceToNat, Int.reduceLE, Int.reduceLT, Int.reduceAdd, Int.reduceSub, Int.reduceNeg, reduceIte, Nat.reduceEqDiff, Nat.reduceAdd, Nat.reduceSub, Nat.reduceMul, Nat.reduceLeDiff, Nat.reduceShiftRight, Nat.reduceMod, reduceCtorEq]; rfl) rfl rfl) fzl_nil))).data (by simp)
  · have e4 : ((limbs m).map (AV.i .i64)).isEmpty = false := by simp [limbs_nil, h0]
    have e5 : 0 < (limbs m).length := e3.2 h0
    cases b
    · simp -implicitDefEqProofs (disch := omega) only [↓walk, plain, List.length_map, List.getElem?_map, Option.map_some, Nat.reduceBEq, decT, decF, iteT, iteF, wrap_ok, Int.reduceToNat, Int.reduceLE, Int.reduceLT, Int.reduceAdd, Int.reduceSub, Int.reduceNeg, reduceIte, Nat.reduceEqDiff, Nat.reduceAdd, Nat.reduceSub, Nat.reduceMul, Nat.reduceLeDiff, Nat.reduceShiftRight, Nat.reduceMod, reduceCtorEq, e2, e4, maxB, h0]
      exact (fz_agg (fzl_cons fz_b (fzl_cons (fz_ints_rf (xs := limbs m) (by simp -implicitDefEqProofs (disch := omega) only [↓walk, plain, List.length_map, List.getElem?_map, Option.map_some, Nat.reduceBEq, decT, decF, iteT, iteF, wrap_ok, Int.reduceToNat, Int.reduceLE, Int.reduceLT, Int.reduceAdd, Int.reduceSub, Int.reduceNeg, reduceIte, Nat.reduceEqDiff, Nat.reduceAdd, Nat.reduceSub, Nat.reduceMul, Nat.reduceLeDiff, Nat.reduceShiftRight, Nat.reduceMod, reduceCtorEq]; rfl) (by omega) (by rw [List.take_of_length_le (by simp)])) fzl_nil))).data (by simp)
    · simp -implicitDefEqProofs (disch := omega) only [↓walk, plain, List.length_map, List.getElem?_map, Option.map_some, Nat.reduceBEq, decT, decF, iteT, iteF, wrap_ok, Int.reduceToNat, Int.reduceLE, Int.reduceLT, Int.reduceAdd, Int.reduceSub, Int.reduceNeg, reduceIte, Nat.reduceEqDiff, Nat.reduceAdd, Nat.reduceSub, Nat.reduceMul, Nat.reduceLeDiff, Nat.reduceShiftRight, Nat.reduceMod, reduceCtorEq, e2, e4, maxB, h0]
      exact (fz_agg (fzl_cons fz_b (fzl_cons (fz_ints_rf (xs := limbs m) (by simp -implicitDefEqProofs (disch := omega) only [↓walk, plain, List.length_map, List.getElem?_map, Option.map_some, Nat.reduceBEq, decT, decF, iteT, iteF, wrap_ok, Int.reduceToNat, Int.reduceLE, Int.reduceLT, Int.reduceAdd, Int.reduceSub, Int.reduceNeg, reduceIte, Nat.reduceEqDiff, Nat.reduceAdd, Nat.reduceSub, Nat.reduceMul, Nat.reduceLeDiff, Nat.reduceShiftRight, Nat.reduceMod, reduceCtorEq]; rfl) (by omega) (by rw [List.take_of_length_le (by simp)])) fzl_nil))).data (by simp)
end Go.Am
/-! Walks: the reference's sums, differences, products. -/
namespace Go.Am
set_option linter.unusedVariables false
set_option linter.unusedSimpArgs false
set_option maxRecDepth 10000
set_option maxHeartbeats 4000000
theorem add_end {ds : List Int} {m n : Nat} (hd : Dig ds) (hv : val ds = (m : Int) + n) (h1 : (limbs m).length ≤ ds.length) (h2 : (limbs n).length ≤ ds.length) (h : ds.length ≤ (limbs m).length ∨ ds.length ≤ (limbs n).length ∨ pw (ds.length - 1) ≤ val ds) : ds = limbs (m + n) := by
  refine uniq' hd (top_of_ge hd fun hne => ?_) (by omega)
  have hl : 0 < ds.length := List.length_pos_iff.2 hne
  rcases h with h | h | h
  · have e : (limbs m).length = ds.length := by omega
    have := ge_of_top (limbs_dig m) (limbs_top m) (by intro e0; rw [e0] at e; simp at e; omega)
    rw [val_limbs, e] at this; omega
  · have e : (limbs n).length = ds.length := by omega
    have := ge_of_top (limbs_dig n) (limbs_top n) (by intro e0; rw [e0] at e; simp at e; omega)
    rw [val_limbs, e] at this; omega
  · exact h
theorem digit_at {xs : List Int} (hd : Dig xs) (i : Nat) : ∃ a, 0 ≤ a ∧ a < 1000000000 ∧ val (xs.take (i + 1)) = val (xs.take i) + pw i * a ∧ (i < xs.length → xs[i]? = some a) ∧ (xs.length ≤ i → a = 0) := by
  by_cases h : i < xs.length
  · obtain ⟨a, ha⟩ := getc h
    have := hd.at ha
    exact ⟨a, this.1, this.2, val_take ha, fun _ => ha, fun h' => by omega⟩
  · exact ⟨0, by omega, by omega, by rw [val_take_ge (by omega)]; simp, fun h' => absurd h' h, fun _ => rfl⟩
theorem add_step2 {ds xs ys : List Int} {i : Nat} {c a b s q : Int} (hl : ds.length = i) (hv : val ds + c * pw i = val (xs.take i) + val (ys.take i)) (ha : val (xs.take (i + 1)) = val (xs.take i) + pw i * a) (hb : val (ys.take (i + 1)) = val (ys.take i) + pw i * b) (hs : s + 1000000000 * q = a + b + c) : val (ds ++ [s]) + q * pw (i + 1) = val (xs.take (i + 1)) + val (ys.take (i + 1)) := by
  rw [val_snoc, ha, hb, hl, pw_succ]
  have : s = a + b + c - 1000000000 * q := by omega
  subst this
  grind
theorem snoc_ge {ds : List Int} (hd : Dig ds) : pw ((ds ++ [1]).length - 1) ≤ val (ds ++ [1]) := by
  rw [val_snoc, List.length_append]
  simp only [List.length_cons, List.length_nil, Nat.zero_add, Nat.add_sub_cancel]
  have := hd.nonneg; omega
def c_spec_l02Add : AF := ⟨55, .seq (.ops [⟨(some 4), .mv (.c .nl), none, []⟩])
  (.seq (.ops [⟨(some 9), .bsl (.i .i64 0) 0 [], none, []⟩,
   ⟨(some 5), .mv (.t 9), none, []⟩])
  (.seq (.ops [⟨(some 6), .mv (.c (.i .i64 0)), none, []⟩])
  (.seq (.seq (.ops [⟨(some 7), .mv (.c (.i .i64 0)), none, []⟩])
  (.block 0 (.loop (.seq (.seq (.ops [⟨(some 10), .mv (.t 7), none, []⟩,
   ⟨(some 11), .mv (.t 0), none, []⟩,
   ⟨(some 12), .len (.t 11), none, []⟩,
   ⟨(some 13), .bin .lss (.t 10) (.t 12), none, []⟩,
   ⟨(some 14), .mv (.t 13), none, []⟩,
   ⟨(some 15), .mv (.t 7), some (14, false), []⟩,
   ⟨(some 16), .mv (.t 1), some (14, false), []⟩,
   ⟨(some 17), .len (.t 16), some (14, false), []⟩,
   ⟨(some 18), .bin .lss (.t 15) (.t 17), some (14, false), []⟩,
   ⟨(some 19), .pick (.t 14) (.c (.b true)) (.t 18), none, []⟩,
   ⟨(some 20), .mv (.t 19), none, []⟩,
   ⟨(some 21), .mv (.t 6), some (20, false), []⟩,
   ⟨(some 22), .bin .gtr (.t 21) (.c (.i .i64 0)), some (20, false), []⟩,
   ⟨(some 23), .pick (.t 20) (.c (.b true)) (.t 22), none, []⟩])
  (.cond (.t 23)
  (.skip)
  (.exit 0)))
  (.seq (.block 1 (.seq (.ops [⟨(some 26), .mv (.t 6), none, []⟩,
   ⟨(some 8), .mv (.t 26), none, []⟩])
  (.seq (.seq (.ops [⟨(some 27), .mv (.t 7), none, []⟩,
   ⟨(some 28), .mv (.t 0), none, []⟩,
   ⟨(some 29), .len (.t 28), none, []⟩,
   ⟨(some 30), .bin .lss (.t 27) (.t 29), none, []⟩])
  (.cond (.t 30)
  (.ops [⟨(some 31), .mv (.t 8), none, []⟩,
    ⟨(some 32), .mv (.t 0), none, []⟩,
    ⟨(some 33), .mv (.t 7), none, []⟩,
    ⟨(some 34), .iad 1 (.t 32) (.t 33), none, []⟩,
    ⟨(some 35), .ld none (.t 34), none, []⟩,
    ⟨(some 36), .bin .add (.t 31) (.t 35), none, []⟩,
    ⟨(some 8), .mv (.t 36), none, []⟩])
  (.skip)))
  (.seq (.seq (.ops [⟨(some 37), .mv (.t 7), none, []⟩,
   ⟨(some 38), .mv (.t 1), none, []⟩,
   ⟨(some 39), .len (.t 38), none, []⟩,
   ⟨(some 40), .bin .lss (.t 37) (.t 39), none, []⟩])
  (.cond (.t 40)
  (.ops [⟨(some 41), .mv (.t 8), none, []⟩,
    ⟨(some 42), .mv (.t 1), none, []⟩,
    ⟨(some 43), .mv (.t 7), none, []⟩,
    ⟨(some 44), .iad 1 (.t 42) (.t 43), none, []⟩,
    ⟨(some 45), .ld none (.t 44), none, []⟩,
    ⟨(some 46), .bin .add (.t 41) (.t 45), none, []⟩,
    ⟨(some 8), .mv (.t 46), none, []⟩])
  (.skip)))
  (.seq (.ops [⟨(some 47), .mv (.t 5), none, []⟩,
   ⟨(some 48), .mv (.t 8), none, []⟩,
   ⟨(some 49), .bin .rem (.t 48) (.c (.i .i64 1000000000)), none, []⟩,
   ⟨(some 50), .bsl (.i .i64 0) 1 [(0, (.t 49))], none, []⟩,
   ⟨(some 51), .app 1 8 (.t 47) (.t 50), none, []⟩,
   ⟨(some 5), .mv (.t 51), none, []⟩])
  (.ops [⟨(some 52), .mv (.t 8), none, []⟩,
   ⟨(some 53), .bin .quo (.t 52) (.c (.i .i64 1000000000)), none, []⟩,
   ⟨(some 6), .mv (.t 53), none, []⟩]))))))
  (.ops [⟨(some 24), .mv (.t 7), none, []⟩,
   ⟨(some 25), .bin .add (.t 24) (.c (.i .i64 1)), none, []⟩,
   ⟨(some 7), .mv (.t 25), none, []⟩]))))))
  (.seq (.ops [⟨(some 54), .mv (.t 5), none, []⟩,
   ⟨(some 4), .mv (.t 54), none, []⟩])
  (.ret))))), [.t 4]⟩
def K_spec_l02Add (P : Program) (f : Nat) : Prop := ∀ m n : Nat, (limbs m).length ≤ 4096 → (limbs n).length ≤ 4096 → OCI P f [ints (limbs m), ints (limbs n)] (limbs (m + n))
theorem t_spec_l02Add {P : Program} {f : Nat} (h : Has P f c_spec_l02Add) : K_spec_l02Add P f := by
  intro m n hm hn n0
  refine mc_go h (by simp) ?_
  have dm := limbs_dig m
  have dn := limbs_dig n
  simp -implicitDefEqProofs (disch := omega) only [↓walk, plain, List.length_map, List.getElem?_map, Option.map_some, Nat.reduceBEq, decT, decF, iteT, iteF, wrap_ok, Int.reduceToNat, Int.reduceLE, Int.reduceLT, Int.reduceAdd, Int.reduceSub, Int.reduceNeg, reduceIte, Nat.reduceEqDiff, Nat.reduceAdd, Nat.reduceSub, Nat.reduceMul, Nat.reduceLeDiff, Nat.reduceShiftRight, Nat.reduceMod, reduceCtorEq, ints, maxB]
  refine go_loopm 18014398509481440 (by first | rfl | (simp only [mods, modsL, modsD, optB]; rfl)) (fun k fr H n2 => ∃ (ds : List Int) (c : Int), ds.length + k = 4098 ∧ LR n0 n2 (fr 5) H ds ∧ fr 6 = .i .i64 c ∧ (c = 0 ∨ c = 1) ∧ fr 7 = .i .i64 ds.length ∧ Dig ds ∧ val ds + c * pw ds.length = val ((limbs m).take ds.length) + val ((limbs n).take ds.length) ∧ (ds.length ≤ (limbs m).length ∨ ds.length ≤ (limbs n).length ∨ (c = 0 ∧ pw (ds.length - 1) ≤ val ds))) 4098 ?_ ?_
  · simp -implicitDefEqProofs (disch := omega) only [↓walk, plain, List.length_map, List.getElem?_map, Option.map_some, Nat.reduceBEq, decT, decF, iteT, iteF, wrap_ok, Int.reduceToNat, Int.reduceLE, Int.reduceLT, Int.reduceAdd, Int.reduceSub, Int.reduceNeg, reduceIte, Nat.reduceEqDiff, Nat.reduceAdd, Nat.reduceSub, Nat.reduceMul, Nat.reduceLeDiff, Nat.reduceShiftRight, Nat.reduceMod, reduceCtorEq]
    exact ⟨[], 0, by simp, LR.mk0 (by omega) (by omega), rfl, .inl rfl, rfl, Dig.nil, by simp [val], .inl (by simp)⟩
  · rintro k fr H n2 ⟨ds, c, hk, hLR, f6, hc, f7, hds, hv, hlast⟩
    refine go_cut 16776192 (by first | rfl | (simp only [mods, modsL, modsD, optB]; rfl)) (fun fr3 H' n3 => (ds.length < (limbs m).length ∨ ds.length < (limbs n).length ∨ c = 1) ∧ H' = H ∧ n2 ≤ n3) ?_ ?_
    · by_cases h1 : ds.length < (limbs m).length
      · simp -implicitDefEqProofs (disch := omega) only [↓walk, plain, List.length_map, List.getElem?_map, Option.map_some, Nat.reduceBEq, decT, decF, iteT, iteF, wrap_ok, Int.reduceToNat, Int.reduceLE, Int.reduceLT, Int.reduceAdd, Int.reduceSub, Int.reduceNeg, reduceIte, Nat.reduceEqDiff, Nat.reduceAdd, Nat.reduceSub, Nat.reduceMul, Nat.reduceLeDiff, Nat.reduceShiftRight, Nat.reduceMod, reduceCtorEq, f7]
        exact ⟨.inl h1, by omega⟩
      · by_cases h2 : ds.length < (limbs n).length
        · simp -implicitDefEqProofs (disch := omega) only [↓walk, plain, List.length_map, List.getElem?_map, Option.map_some, Nat.reduceBEq, decT, decF, iteT, iteF, wrap_ok, Int.reduceToNat, Int.reduceLE, Int.reduceLT, Int.reduceAdd, Int.reduceSub, Int.reduceNeg, reduceIte, Nat.reduceEqDiff, Nat.reduceAdd, Nat.reduceSub, Nat.reduceMul, Nat.reduceLeDiff, Nat.reduceShiftRight, Nat.reduceMod, reduceCtorEq, f7]
          exact ⟨.inr (.inl h2), by omega⟩
        · by_cases h3 : c = 1
          · simp -implicitDefEqProofs (disch := omega) only [↓walk, plain, List.length_map, List.getElem?_map, Option.map_some, Nat.reduceBEq, decT, decF, iteT, iteF, wrap_ok, Int.reduceToNat, Int.reduceLE, Int.reduceLT, Int.reduceAdd, Int.reduceSub, Int.reduceNeg, reduceIte, Nat.reduceEqDiff, Nat.reduceAdd, Nat.reduceSub, Nat.reduceMul, Nat.reduceLeDiff, Nat.reduceShiftRight, Nat.reduceMod, reduceCtorEq, f6, f7]
            exact ⟨.inr (.inr h3), by omega⟩
          · have h0 : ¬ (ds.length < (limbs m).length ∨ ds.length < (limbs n).length ∨ c = 1) := by omega
            obtain ⟨T, hT, hT2, f5, hH⟩ := hLR
            simp -implicitDefEqProofs (disch := omega) only [↓walk, plain, List.length_map, List.getElem?_map, Option.map_some, Nat.reduceBEq, decT, decF, iteT, iteF, wrap_ok, Int.reduceToNat, Int.reduceLE, Int.reduceLT, Int.reduceAdd, Int.reduceSub, Int.reduceNeg, reduceIte, Nat.reduceEqDiff, Nat.reduceAdd, Nat.reduceSub, Nat.reduceMul, Nat.reduceLeDiff, Nat.reduceShiftRight, Nat.reduceMod, reduceCtorEq, f6, f7, f5]
            have hc0 : c = 0 := by omega
            subst hc0
            rw [take_all (by omega), take_all (by omega), val_limbs, val_limbs] at hv
            rw [← add_end (ds := ds) (m := m) (n := n) hds (by omega) (by omega) (by omega) (by rcases hlast with h | h | h; exact .inl h; exact .inr (.inl h); exact .inr (.inr h.2))]
            exact LR.own ⟨T, hT, hT2, rfl, hH⟩
    · rintro fr3 H' n3 ⟨h0, rfl, hn3⟩
      obtain ⟨a, ha0, ha1, hav, hag, haz⟩ := digit_at dm ds.length
      obtain ⟨b, hb0, hb1, hbv, hbg, hbz⟩ := digit_at dn ds.length
      simp -implicitDefEqProofs (disch := omega) only [↓walk, plain, List.length_map, List.getElem?_map, Option.map_some, Nat.reduceBEq, iteT, iteF, wrap_ok, Int.reduceToNat, Int.reduceLE, Int.reduceLT, Int.reduceAdd, Int.reduceSub, Int.reduceNeg, reduceIte, Nat.reduceEqDiff, Nat.reduceAdd, Nat.reduceSub, Nat.reduceMul, Nat.reduceLeDiff, Nat.reduceShiftRight, Nat.reduceMod, reduceCtorEq, f6, f7]
      refine goC_join 135291470080 (by first | rfl | (simp only [mods, modsL, modsD, optB]; rfl)) (fun fr4 H4 n4 => fr4 8 = .i .i64 (c + a) ∧ H4 = H' ∧ n3 ≤ n4) (fun h1 => ?_) (fun h1 => ?_) ?_
      · have hag := hag (by omega)
        simp -implicitDefEqProofs (disch := omega) only [↓walk, plain, List.length_map, List.getElem?_map, Option.map_some, Nat.reduceBEq, decT, decF, iteT, iteF, wrap_ok, Int.reduceToNat, Int.reduceLE, Int.reduceLT, Int.reduceAdd, Int.reduceSub, Int.reduceNeg, reduceIte, Nat.reduceEqDiff, Nat.reduceAdd, Nat.reduceSub, Nat.reduceMul, Nat.reduceLeDiff, Nat.reduceShiftRight, Nat.reduceMod, reduceCtorEq, f6, f7, hag]
        omega
      · have haz := haz (by omega)
        subst haz
        simp -implicitDefEqProofs (disch := omega) only [↓walk, plain, List.length_map, List.getElem?_map, Option.map_some, Nat.reduceBEq, decT, decF, iteT, iteF, wrap_ok, Int.reduceToNat, Int.reduceLE, Int.reduceLT, Int.reduceAdd, Int.reduceSub, Int.reduceNeg, reduceIte, Nat.reduceEqDiff, Nat.reduceAdd, Nat.reduceSub, Nat.reduceMul, Nat.reduceLeDiff, Nat.reduceShiftRight, Nat.reduceMod, reduceCtorEq, f6]
        exact ⟨by rw [Int.add_zero], by omega⟩
      · rintro fr4 H4 n4 ⟨f8, rfl, hn4⟩
        simp -implicitDefEqProofs (disch := omega) only [↓walk, plain, List.length_map, List.getElem?_map, Option.map_some, Nat.reduceBEq, iteT, iteF, wrap_ok, Int.reduceToNat, Int.reduceLE, Int.reduceLT, Int.reduceAdd, Int.reduceSub, Int.reduceNeg, reduceIte, Nat.reduceEqDiff, Nat.reduceAdd, Nat.reduceSub, Nat.reduceMul, Nat.reduceLeDiff, Nat.reduceShiftRight, Nat.reduceMod, reduceCtorEq, f7, f8]
        refine goC_join 138538465100032 (by first | rfl | (simp only [mods, modsL, modsD, optB]; rfl)) (fun fr5 H5 n5 => fr5 8 = .i .i64 (c + a + b) ∧ H5 = H4 ∧ n4 ≤ n5) (fun h1 => ?_) (fun h1 => ?_) ?_
        · have hbg := hbg (by omega)
          simp -implicitDefEqProofs (disch := omega) only [↓walk, plain, List.length_map, List.getElem?_map, Option.map_some, Nat.reduceBEq, decT, decF, iteT, iteF, wrap_ok, Int.reduceToNat, Int.reduceLE, Int.reduceLT, Int.reduceAdd, Int.reduceSub, Int.reduceNeg, reduceIte, Nat.reduceEqDiff, Nat.reduceAdd, Nat.reduceSub, Nat.reduceMul, Nat.reduceLeDiff, Nat.reduceShiftRight, Nat.reduceMod, reduceCtorEq, f7, f8, hbg]
          omega
        · have hbz := hbz (by omega)
          subst hbz
          simp -implicitDefEqProofs (disch := omega) only [↓walk, plain, List.length_map, List.getElem?_map, Option.map_some, Nat.reduceBEq, decT, decF, iteT, iteF, wrap_ok, Int.reduceToNat, Int.reduceLE, Int.reduceLT, Int.reduceAdd, Int.reduceSub, Int.reduceNeg, reduceIte, Nat.reduceEqDiff, Nat.reduceAdd, Nat.reduceSub, Nat.reduceMul, Nat.reduceLeDiff, Nat.reduceShiftRight, Nat.reduceMod, reduceCtorEq, f8]
          exact ⟨by rw [Int.add_zero], by omega⟩
        · rintro fr5 H5 n5 ⟨f8', rfl, hn5⟩
          obtain ⟨T, hT, hT2, f5, hH⟩ := hLR
          obtain ⟨q1, q2⟩ := qr (s := c + a + b) (by omega)
          simp -implicitDefEqProofs (disch := omega) only [↓walk, plain, List.length_map, List.getElem?_map, Option.map_some, Nat.reduceBEq, decT, decF, iteT, iteF, wrap_ok, Int.reduceToNat, Int.reduceLE, Int.reduceLT, Int.reduceAdd, Int.reduceSub, Int.reduceNeg, reduceIte, Nat.reduceEqDiff, Nat.reduceAdd, Nat.reduceSub, Nat.reduceMul, Nat.reduceLeDiff, Nat.reduceShiftRight, Nat.reduceMod, reduceCtorEq, f7, f8', f5, hH, q1, q2, List.isEmpty_cons, maxB]
          have hstep := add_step2 rfl hv hav hbv (s := (c + a + b) % 1000000000) (q := (c + a + b) / 1000000000) (by omega)
          have hlen : ds.length < 4097 := by omega
          refine ⟨k - 1, by omega, _, _, ?_, LR.snoc ?_ ?_, rfl, ?_, ?_, hds.snoc (by omega) (by omega), ?_, ?_⟩
          · simp; omega
          · omega
          · omega
          · omega
          · simp
          · simpa using hstep
          · by_cases h5 : ds.length < (limbs m).length
            · left; simp; omega
            · by_cases h6 : ds.length < (limbs n).length
              · right; left; simp; omega
              · have haz := haz (by omega)
                have hbz := hbz (by omega)
                have hc1 : c = 1 := by omega
                subst haz; subst hbz; subst hc1
                exact .inr (.inr ⟨rfl, snoc_ge hds⟩)
end Go.Am
/-! Walks: the reference's differences, products, divisions. -/
namespace Go.Am
set_option linter.unusedVariables false
set_option linter.unusedSimpArgs false
set_option maxRecDepth 10000
set_option maxHeartbeats 4000000
theorem sub_step2 {ds xs ys : List Int} {i : Nat} {c a b s q : Int} (hl : ds.length = i) (hv : val ds = val (xs.take i) - val (ys.take i) + c * pw i) (ha : xs[i]? = some a) (hb : val (ys.take (i + 1)) = val (ys.take i) + pw i * b) (hs : s = a - c - b + 1000000000 * q) : val (ds ++ [s]) = val (xs.take (i + 1)) - val (ys.take (i + 1)) + q * pw (i + 1) := by
  rw [val_snoc, val_take ha, hb, hl, pw_succ, hv]
  subst hs
  grind
def c_spec_l02Sub (n_spec_l02Trim : Nat) : AF := ⟨42, .seq (.ops [⟨(some 4), .mv (.c .nl), none, []⟩])
  (.seq (.ops [⟨(some 9), .bsl (.i .i64 0) 0 [], none, []⟩,
   ⟨(some 5), .mv (.t 9), none, []⟩])
  (.seq (.ops [⟨(some 6), .mv (.c (.i .i64 0)), none, []⟩])
  (.seq (.seq (.ops [⟨(some 10), .mv (.t 0), none, []⟩,
   ⟨(some 11), .len (.t 10), none, []⟩,
   ⟨(some 12), .mv (.c (.i .i64 0)), none, []⟩])
  (.block 0 (.loop (.seq (.ops [⟨(some 13), .bin .lss (.t 12) (.t 11), none, []⟩])
  (.seq (.cond (.t 13)
  (.skip)
  (.exit 0))
  (.seq (.block 1 (.seq (.ops [⟨(some 14), .mv (.t 12), none, []⟩,
   ⟨(some 7), .mv (.t 14), none, []⟩])
  (.seq (.ops [⟨(some 15), .mv (.t 0), none, []⟩,
   ⟨(some 16), .mv (.t 7), none, []⟩,
   ⟨(some 17), .iad 1 (.t 15) (.t 16), none, []⟩,
   ⟨(some 18), .ld none (.t 17), none, []⟩,
   ⟨(some 19), .mv (.t 6), none, []⟩,
   ⟨(some 20), .bin .sub (.t 18) (.t 19), none, []⟩,
   ⟨(some 8), .mv (.t 20), none, []⟩])
  (.seq (.seq (.ops [⟨(some 21), .mv (.t 7), none, []⟩,
   ⟨(some 22), .mv (.t 1), none, []⟩,
   ⟨(some 23), .len (.t 22), none, []⟩,
   ⟨(some 24), .bin .lss (.t 21) (.t 23), none, []⟩])
  (.cond (.t 24)
  (.ops [⟨(some 25), .mv (.t 8), none, []⟩,
    ⟨(some 26), .mv (.t 1), none, []⟩,
    ⟨(some 27), .mv (.t 7), none, []⟩,
    ⟨(some 28), .iad 1 (.t 26) (.t 27), none, []⟩,
    ⟨(some 29), .ld none (.t 28), none, []⟩,
    ⟨(some 30), .bin .sub (.t 25) (.t 29), none, []⟩,
    ⟨(some 8), .mv (.t 30), none, []⟩])
  (.skip)))
  (.seq (.ops [⟨(some 6), .mv (.c (.i .i64 0)), none, []⟩])
  (.seq (.seq (.ops [⟨(some 31), .mv (.t 8), none, []⟩,
   ⟨(some 32), .bin .lss (.t 31) (.c (.i .i64 0)), none, []⟩])
  (.cond (.t 32)
  (.seq (.ops [⟨(some 33), .mv (.t 8), none, []⟩,
    ⟨(some 34), .bin .add (.t 33) (.c (.i .i64 1000000000)), none, []⟩,
    ⟨(some 8), .mv (.t 34), none, []⟩])
   (.ops [⟨(some 6), .mv (.c (.i .i64 1)), none, []⟩]))
  (.skip)))
  (.ops [⟨(some 35), .mv (.t 5), none, []⟩,
   ⟨(some 36), .mv (.t 8), none, []⟩,
   ⟨(some 37), .bsl (.i .i64 0) 1 [(0, (.t 36))], none, []⟩,
   ⟨(some 38), .app 1 8 (.t 35) (.t 37), none, []⟩,
   ⟨(some 5), .mv (.t 38), none, []⟩])))))))
  (.ops [⟨(some 39), .bin .add (.t 12) (.c (.i .i64 1)), none, []⟩,
   ⟨(some 12), .mv (.t 39), none, []⟩])))))))
  (.seq (.ops [⟨(some 40), .mv (.t 5), none, []⟩,
   ⟨(some 41), .call true n_spec_l02Trim [(.t 40)], none, []⟩,
   ⟨(some 4), .mv (.t 41), none, []⟩])
  (.ret))))), [.t 4]⟩
def K_spec_l02Sub (P : Program) (f : Nat) : Prop := ∀ m n : Nat, n ≤ m → (limbs m).length ≤ 4096 → (limbs n).length ≤ 4096 → OCI P f [ints (limbs m), ints (limbs n)] (limbs (m - n))
theorem t_spec_l02Sub {P : Program} {f n_spec_l02Trim : Nat} (h : Has P f (c_spec_l02Sub n_spec_l02Trim)) (k_spec_l02Trim : K_spec_l02Trim P n_spec_l02Trim) : K_spec_l02Sub P f := by
  intro m n hnm hm hn n0
  refine mc_go h (by simp) ?_
  have dm := limbs_dig m
  have dn := limbs_dig n
  simp -implicitDefEqProofs (disch := omega) only [↓walk, plain, List.length_map, List.getElem?_map, Option.map_some, Nat.reduceBEq, decT, decF, iteT, iteF, wrap_ok, Int.reduceToNat, Int.reduceLE, Int.reduceLT, Int.reduceAdd, Int.reduceSub, Int.reduceNeg, reduceIte, Nat.reduceEqDiff, Nat.reduceAdd, Nat.reduceSub, Nat.reduceMul, Nat.reduceLeDiff, Nat.reduceShiftRight, Nat.reduceMod, reduceCtorEq, ints, maxB]
  refine go_loopm 1099511624160 (by first | rfl | (simp only [mods, modsL, modsD, optB]; rfl)) (fun k fr H n2 => ∃ (ds : List Int) (c : Int), ds.length + k = (limbs m).length ∧ LR n0 n2 (fr 5) H ds ∧ fr 6 = .i .i64 c ∧ (c = 0 ∨ c = 1) ∧ fr 12 = .i .i64 ds.length ∧ Dig ds ∧ val ds = val ((limbs m).take ds.length) - val ((limbs n).take ds.length) + c * pw ds.length) (limbs m).length ?_ ?_
  · simp -implicitDefEqProofs (disch := omega) only [↓walk, plain, List.length_map, List.getElem?_map, Option.map_some, Nat.reduceBEq, decT, decF, iteT, iteF, wrap_ok, Int.reduceToNat, Int.reduceLE, Int.reduceLT, Int.reduceAdd, Int.reduceSub, Int.reduceNeg, reduceIte, Nat.reduceEqDiff, Nat.reduceAdd, Nat.reduceSub, Nat.reduceMul, Nat.reduceLeDiff, Nat.reduceShiftRight, Nat.reduceMod, reduceCtorEq]
    exact ⟨[], 0, by simp, LR.mk0 (by omega) (by omega), rfl, .inl rfl, rfl, Dig.nil, by simp [val]⟩
  · rintro k fr H n2 ⟨ds, c, hk, ⟨T, hT, hT2, f5, hH⟩, f6, hc, f12, hds, hv⟩
    simp -implicitDefEqProofs (disch := omega) only [↓walk, plain, List.length_map, List.getElem?_map, Option.map_some, Nat.reduceBEq, iteT, iteF, wrap_ok, Int.reduceToNat, Int.reduceLE, Int.reduceLT, Int.reduceAdd, Int.reduceSub, Int.reduceNeg, reduceIte, Nat.reduceEqDiff, Nat.reduceAdd, Nat.reduceSub, Nat.reduceMul, Nat.reduceLeDiff, Nat.reduceShiftRight, Nat.reduceMod, reduceCtorEq, f12]
    refine goC_dec (fun h0 => ?_) (fun h0 => ?_)
    · obtain ⟨a, ha⟩ := getc (xs := limbs m) (i := ds.length) (by omega)
      have da := dm.at ha
      obtain ⟨b, hb0, hb1, hbv, hbg, hbz⟩ := digit_at dn ds.length
      simp -implicitDefEqProofs (disch := omega) only [↓walk, plain, List.length_map, List.getElem?_map, Option.map_some, Nat.reduceBEq, iteT, iteF, wrap_ok, Int.reduceToNat, Int.reduceLE, Int.reduceLT, Int.reduceAdd, Int.reduceSub, Int.reduceNeg, reduceIte, Nat.reduceEqDiff, Nat.reduceAdd, Nat.reduceSub, Nat.reduceMul, Nat.reduceLeDiff, Nat.reduceShiftRight, Nat.reduceMod, reduceCtorEq, f6, f12, ha]
      refine goC_join 2113929472 (by first | rfl | (simp only [mods, modsL, modsD, optB]; rfl)) (fun fr3 H' n3 => fr3 8 = .i .i64 (a - c - b) ∧ H' = H ∧ n2 ≤ n3) (fun h1 => ?_) (fun h1 => ?_) ?_
      · have hbg := hbg (by omega)
        simp -implicitDefEqProofs (disch := omega) only [↓walk, plain, List.length_map, List.getElem?_map, Option.map_some, Nat.reduceBEq, decT, decF, iteT, iteF, wrap_ok, Int.reduceToNat, Int.reduceLE, Int.reduceLT, Int.reduceAdd, Int.reduceSub, Int.reduceNeg, reduceIte, Nat.reduceEqDiff, Nat.reduceAdd, Nat.reduceSub, Nat.reduceMul, Nat.reduceLeDiff, Nat.reduceShiftRight, Nat.reduceMod, reduceCtorEq, f6, f12, hbg]
        omega
      · have hbz := hbz (by omega)
        subst hbz
        simp -implicitDefEqProofs (disch := omega) only [↓walk, plain, List.length_map, List.getElem?_map, Option.map_some, Nat.reduceBEq, decT, decF, iteT, iteF, wrap_ok, Int.reduceToNat, Int.reduceLE, Int.reduceLT, Int.reduceAdd, Int.reduceSub, Int.reduceNeg, reduceIte, Nat.reduceEqDiff, Nat.reduceAdd, Nat.reduceSub, Nat.reduceMul, Nat.reduceLeDiff, Nat.reduceShiftRight, Nat.reduceMod, reduceCtorEq, f6]
        exact ⟨by rw [Int.sub_zero], by omega⟩
      · rintro fr3 H' n3 ⟨f8, rfl, hn3⟩
        simp -implicitDefEqProofs (disch := omega) only [↓walk, plain, List.length_map, List.getElem?_map, Option.map_some, Nat.reduceBEq, iteT, iteF, wrap_ok, Int.reduceToNat, Int.reduceLE, Int.reduceLT, Int.reduceAdd, Int.reduceSub, Int.reduceNeg, reduceIte, Nat.reduceEqDiff, Nat.reduceAdd, Nat.reduceSub, Nat.reduceMul, Nat.reduceLeDiff, Nat.reduceShiftRight, Nat.reduceMod, reduceCtorEq, f8]
        refine goC_dec (fun h2 => ?_) (fun h2 => ?_)
        · simp -implicitDefEqProofs (disch := omega) only [↓walk, plain, List.length_map, List.getElem?_map, Option.map_some, Nat.reduceBEq, decT, decF, iteT, iteF, wrap_ok, Int.reduceToNat, Int.reduceLE, Int.reduceLT, Int.reduceAdd, Int.reduceSub, Int.reduceNeg, reduceIte, Nat.reduceEqDiff, Nat.reduceAdd, Nat.reduceSub, Nat.reduceMul, Nat.reduceLeDiff, Nat.reduceShiftRight, Nat.reduceMod, reduceCtorEq, f8, f5, f12, hH, List.isEmpty_cons, maxB]
          have hst := sub_step2 rfl hv ha hbv (s := a - c - b + 1000000000) (q := 1) (by omega)
          refine ⟨k - 1, by omega, _, 1, ?_, LR.snoc ?_ ?_, rfl, .inr rfl, ?_, hds.snoc (by omega) (by omega), ?_⟩
          · simp; omega
          · omega
          · omega
          · simp
          · simpa using hst
        · simp -implicitDefEqProofs (disch := omega) only [↓walk, plain, List.length_map, List.getElem?_map, Option.map_some, Nat.reduceBEq, decT, decF, iteT, iteF, wrap_ok, Int.reduceToNat, Int.reduceLE, Int.reduceLT, Int.reduceAdd, Int.reduceSub, Int.reduceNeg, reduceIte, Nat.reduceEqDiff, Nat.reduceAdd, Nat.reduceSub, Nat.reduceMul, Nat.reduceLeDiff, Nat.reduceShiftRight, Nat.reduceMod, reduceCtorEq, f8, f5, f12, hH, List.isEmpty_cons, maxB]
          have hst := sub_step2 rfl hv ha hbv (s := a - c - b) (q := 0) (by omega)
          refine ⟨k - 1, by omega, _, 0, ?_, LR.snoc ?_ ?_, rfl, .inl rfl, ?_, hds.snoc (by omega) (by omega), ?_⟩
          · simp; omega
          · omega
          · omega
          · simp
          · simpa using hst
    · simp -implicitDefEqProofs (disch := omega) only [↓walk, plain, List.length_map, List.getElem?_map, Option.map_some, Nat.reduceBEq, decT, decF, iteT, iteF, wrap_ok, Int.reduceToNat, Int.reduceLE, Int.reduceLT, Int.reduceAdd, Int.reduceSub, Int.reduceNeg, reduceIte, Nat.reduceEqDiff, Nat.reduceAdd, Nat.reduceSub, Nat.reduceMul, Nat.reduceLeDiff, Nat.reduceShiftRight, Nat.reduceMod, reduceCtorEq, f5]
      have hlen : ds.length = (limbs m).length := by omega
      refine goCall_mc0 (k_spec_l02Trim.1 _ _ _ ds (by omega) hH) ?_
      rintro v H2 n3 ⟨rfl, _, k2, hk2, rfl, ht⟩
      simp -implicitDefEqProofs (disch := omega) only [↓walk, plain, List.length_map, List.getElem?_map, Option.map_some, Nat.reduceBEq, decT, decF, iteT, iteF, wrap_ok, Int.reduceToNat, Int.reduceLE, Int.reduceLT, Int.reduceAdd, Int.reduceSub, Int.reduceNeg, reduceIte, Nat.reduceEqDiff, Nat.reduceAdd, Nat.reduceSub, Nat.reduceMul, Nat.reduceLeDiff, Nat.reduceShiftRight, Nat.reduceMod, reduceCtorEq]
      have hmn := limbs_len_mono hnm
      rw [take_all (by omega), take_all (by omega), val_limbs, val_limbs] at hv
      rw [← sub_end hnm hds hc hv hk2 ht]
      exact takeI (n2 := n3) hk2 hT hH
def c_spec_l02Mul (n_spec_l02Trim : Nat) : AF := ⟨72, .seq (.ops [⟨(some 4), .mv (.c .nl), none, []⟩])
  (.seq (.seq (.ops [⟨(some 12), .mv (.t 0), none, []⟩,
   ⟨(some 13), .len (.t 12), none, []⟩,
   ⟨(some 14), .bin .eql (.t 13) (.c (.i .i64 0)), none, []⟩,
   ⟨(some 15), .mv (.t 14), none, []⟩,
   ⟨(some 16), .mv (.t 1), some (15, false), []⟩,
   ⟨(some 17), .len (.t 16), some (15, false), []⟩,
   ⟨(some 18), .bin .eql (.t 17) (.c (.i .i64 0)), some (15, false), []⟩,
   ⟨(some 19), .pick (.t 15) (.c (.b true)) (.t 18), none, []⟩])
  (.cond (.t 19)
  (.seq (.ops [⟨(some 4), .mv (.c .nl), none, []⟩])
   (.ret))
  (.skip)))
  (.seq (.ops [⟨(some 20), .mv (.t 0), none, []⟩,
   ⟨(some 21), .len (.t 20), none, []⟩,
   ⟨(some 22), .mv (.t 1), none, []⟩,
   ⟨(some 23), .len (.t 22), none, []⟩,
   ⟨(some 24), .bin .add (.t 21) (.t 23), none, []⟩,
   ⟨(some 25), .mks (.i .i64 0) 8 (.t 24) (.t 24), none, []⟩,
   ⟨(some 5), .mv (.t 25), none, []⟩])
  (.seq (.seq (.ops [⟨(some 26), .mv (.t 0), none, []⟩,
   ⟨(some 27), .len (.t 26), none, []⟩,
   ⟨(some 28), .mv (.c (.i .i64 0)), none, []⟩])
  (.block 0 (.loop (.seq (.ops [⟨(some 29), .bin .lss (.t 28) (.t 27), none, []⟩])
  (.seq (.cond (.t 29)
  (.skip)
  (.exit 0))
  (.seq (.block 1 (.seq (.ops [⟨(some 30), .mv (.t 28), none, []⟩,
   ⟨(some 31), .iad 1 (.t 26) (.t 28), none, []⟩,
   ⟨(some 32), .ld none (.t 31), none, []⟩,
   ⟨(some 6), .mv (.t 30), none, []⟩,
   ⟨(some 7), .mv (.t 32), none, []⟩])
  (.seq (.ops [⟨(some 8), .mv (.c (.i .i64 0)), none, []⟩])
  (.seq (.seq (.ops [⟨(some 33), .mv (.t 1), none, []⟩,
   ⟨(some 34), .len (.t 33), none, []⟩,
   ⟨(some 35), .mv (.c (.i .i64 0)), none, []⟩])
  (.block 2 (.loop (.seq (.ops [⟨(some 36), .bin .lss (.t 35) (.t 34), none, []⟩])
  (.seq (.cond (.t 36)
  (.skip)
  (.exit 2))
  (.seq (.block 3 (.seq (.ops [⟨(some 37), .mv (.t 35), none, []⟩,
   ⟨(some 38), .iad 1 (.t 33) (.t 35), none, []⟩,
   ⟨(some 39), .ld none (.t 38), none, []⟩,
   ⟨(some 9), .mv (.t 37), none, []⟩,
   ⟨(some 10), .mv (.t 39), none, []⟩])
  (.seq (.ops [⟨(some 40), .mv (.t 5), none, []⟩,
   ⟨(some 41), .mv (.t 6), none, []⟩,
   ⟨(some 42), .mv (.t 9), none, []⟩,
   ⟨(some 43), .bin .add (.t 41) (.t 42), none, []⟩,
   ⟨(some 44), .iad 1 (.t 40) (.t 43), none, []⟩,
   ⟨(some 45), .ld none (.t 44), none, []⟩,
   ⟨(some 46), .mv (.t 7), none, []⟩,
   ⟨(some 47), .mv (.t 10), none, []⟩,
   ⟨(some 48), .bin .mul (.t 46) (.t 47), none, []⟩,
   ⟨(some 49), .bin .add (.t 45) (.t 48), none, []⟩,
   ⟨(some 50), .mv (.t 8), none, []⟩,
   ⟨(some 51), .bin .add (.t 49) (.t 50), none, []⟩,
   ⟨(some 11), .mv (.t 51), none, []⟩])
  (.seq (.ops [⟨(some 52), .mv (.t 5), none, []⟩,
   ⟨(some 53), .mv (.t 6), none, []⟩,
   ⟨(some 54), .mv (.t 9), none, []⟩,
   ⟨(some 55), .bin .add (.t 53) (.t 54), none, []⟩,
   ⟨(some 56), .mv (.t 11), none, []⟩,
   ⟨(some 57), .bin .rem (.t 56) (.c (.i .i64 1000000000)), none, []⟩,
   ⟨(some 58), .iad 1 (.t 52) (.t 55), none, []⟩,
   ⟨none, .st none (.t 58) (.t 57), none, []⟩])
  (.ops [⟨(some 59), .mv (.t 11), none, []⟩,
   ⟨(some 60), .bin .quo (.t 59) (.c (.i .i64 1000000000)), none, []⟩,
   ⟨(some 8), .mv (.t 60), none, []⟩])))))
  (.ops [⟨(some 61), .bin .add (.t 35) (.c (.i .i64 1)), none, []⟩,
   ⟨(some 35), .mv (.t 61), none, []⟩])))))))
  (.ops [⟨(some 62), .mv (.t 5), none, []⟩,
   ⟨(some 63), .mv (.t 6), none, []⟩,
   ⟨(some 64), .mv (.t 1), none, []⟩,
   ⟨(some 65), .len (.t 64), none, []⟩,
   ⟨(some 66), .bin .add (.t 63) (.t 65), none, []⟩,
   ⟨(some 67), .mv (.t 8), none, []⟩,
   ⟨(some 68), .iad 1 (.t 62) (.t 66), none, []⟩,
   ⟨none, .st none (.t 68) (.t 67), none, []⟩])))))
  (.ops [⟨(some 69), .bin .add (.t 28) (.c (.i .i64 1)), none, []⟩,
   ⟨(some 28), .mv (.t 69), none, []⟩])))))))
  (.seq (.ops [⟨(some 70), .mv (.t 5), none, []⟩,
   ⟨(some 71), .call true n_spec_l02Trim [(.t 70)], none, []⟩,
   ⟨(some 4), .mv (.t 71), none, []⟩])
  (.ret))))), [.t 4]⟩
def K_spec_l02Mul (P : Program) (f : Nat) : Prop := ∀ m n : Nat, (limbs m).length ≤ 4096 → (limbs n).length ≤ 4096 → OCI P f [ints (limbs m), ints (limbs n)] (limbs (m * n))
theorem t_spec_l02Mul {P : Program} {f n_spec_l02Trim : Nat} (h : Has P f (c_spec_l02Mul n_spec_l02Trim)) (k_spec_l02Trim : K_spec_l02Trim P n_spec_l02Trim) : K_spec_l02Mul P f := by
  intro m n hm hn n0
  refine mc_go h (by simp) ?_
  have dm := limbs_dig m
  have dn := limbs_dig n
  have hl0 : ∀ k : Nat, (limbs k).length = 0 → limbs k = [] := fun k h => List.length_eq_zero_iff.1 h
  by_cases hm0 : (limbs m).length = 0
  · simp -implicitDefEqProofs (disch := omega) only [↓walk, plain, List.length_map, List.getElem?_map, Option.map_some, Nat.reduceBEq, decT, decF, iteT, iteF, wrap_ok, Int.reduceToNat, Int.reduceLE, Int.reduceLT, Int.reduceAdd, Int.reduceSub, Int.reduceNeg, reduceIte, Nat.reduceEqDiff, Nat.reduceAdd, Nat.reduceSub, Nat.reduceMul, Nat.reduceLeDiff, Nat.reduceShiftRight, Nat.reduceMod, reduceCtorEq, ints]
    exact .inl ⟨by rw [limbs_nil.1 (hl0 m hm0), Nat.zero_mul, limbs_zero], rfl⟩
  by_cases hn0 : (limbs n).length = 0
  · simp -implicitDefEqProofs (disch := omega) only [↓walk, plain, List.length_map, List.getElem?_map, Option.map_some, Nat.reduceBEq, decT, decF, iteT, iteF, wrap_ok, Int.reduceToNat, Int.reduceLE, Int.reduceLT, Int.reduceAdd, Int.reduceSub, Int.reduceNeg, reduceIte, Nat.reduceEqDiff, Nat.reduceAdd, Nat.reduceSub, Nat.reduceMul, Nat.reduceLeDiff, Nat.reduceShiftRight, Nat.reduceMod, reduceCtorEq, ints]
    exact .inl ⟨by rw [limbs_nil.1 (hl0 n hn0), Nat.mul_zero, limbs_zero], rfl⟩
  have ez : (((limbs m).length : Int) + (limbs n).length).toNat = (limbs m).length + (limbs n).length := by omega
  simp -implicitDefEqProofs (disch := omega) only [↓walk, plain, List.length_map, List.getElem?_map, Option.map_some, Nat.reduceBEq, decT, decF, iteT, iteF, wrap_ok, Int.reduceToNat, Int.reduceLE, Int.reduceLT, Int.reduceAdd, Int.reduceSub, Int.reduceNeg, reduceIte, Nat.reduceEqDiff, Nat.reduceAdd, Nat.reduceSub, Nat.reduceMul, Nat.reduceLeDiff, Nat.reduceShiftRight, Nat.reduceMod, reduceCtorEq, ints, ez, rep_map, maxB]
  refine go_loopm 1180591620717142872000 (by first | rfl | (simp only [mods, modsL, modsD, optB]; rfl)) (fun K fr H n2 => ∃ (i : Nat) (os : List Int), i + K = (limbs m).length ∧ n0 ≤ n2 ∧ os.length = (limbs m).length + (limbs n).length ∧ H (n0 + 1 + 8 + 1 + 1 + 1 + 1 + 1) = some (1, os.map (.i .i64)) ∧ fr 28 = .i .i64 i ∧ Dig os ∧ val os = val ((limbs m).take i) * val (limbs n)) (limbs m).length ?_ ?_
  · simp -implicitDefEqProofs (disch := omega) only [↓walk, plain, List.length_map, List.getElem?_map, Option.map_some, Nat.reduceBEq, decT, decF, iteT, iteF, wrap_ok, Int.reduceToNat, Int.reduceLE, Int.reduceLT, Int.reduceAdd, Int.reduceSub, Int.reduceNeg, reduceIte, Nat.reduceEqDiff, Nat.reduceAdd, Nat.reduceSub, Nat.reduceMul, Nat.reduceLeDiff, Nat.reduceShiftRight, Nat.reduceMod, reduceCtorEq]
    exact ⟨0, _, by omega, by omega, by simp, rfl, rfl, Dig.replicate _, by rw [val_replicate]; simp [val]⟩
  · rintro K fr H n2 ⟨i, os, hK, hn2, hlen, hH, f20, hd, hv⟩
    simp -implicitDefEqProofs (disch := omega) only [↓walk, plain, List.length_map, List.getElem?_map, Option.map_some, Nat.reduceBEq, iteT, iteF, wrap_ok, Int.reduceToNat, Int.reduceLE, Int.reduceLT, Int.reduceAdd, Int.reduceSub, Int.reduceNeg, reduceIte, Nat.reduceEqDiff, Nat.reduceAdd, Nat.reduceSub, Nat.reduceMul, Nat.reduceLeDiff, Nat.reduceShiftRight, Nat.reduceMod, reduceCtorEq, f20]
    refine goC_dec (fun h0 => ?_) (fun h0 => ?_)
    · obtain ⟨x, hx⟩ := getc (xs := limbs m) (i := i) (by omega)
      have dx := dm.at hx
      simp -implicitDefEqProofs (disch := omega) only [↓walk, plain, List.length_map, List.getElem?_map, Option.map_some, Nat.reduceBEq, decT, decF, iteT, iteF, wrap_ok, Int.reduceToNat, Int.reduceLE, Int.reduceLT, Int.reduceAdd, Int.reduceSub, Int.reduceNeg, reduceIte, Nat.reduceEqDiff, Nat.reduceAdd, Nat.reduceSub, Nat.reduceMul, Nat.reduceLeDiff, Nat.reduceShiftRight, Nat.reduceMod, reduceCtorEq, f20, hx]
      have hz : os[i + (limbs n).length]? = some 0 := by
        obtain ⟨a, ha⟩ := getc (xs := os) (i := i + (limbs n).length) (by omega)
        rw [ha, hd.zero_at (mul_lt dm dn (by omega) hv) (Nat.le_refl _) ha]
      refine go_loopm 4611685984067653376 (by first | rfl | (simp only [mods, modsL, modsD, optB]; rfl)) (fun K' fr2 H2 n3 => ∃ (k : Nat) (o2 : List Int) (c : Int), k + K' = (limbs n).length ∧ n0 ≤ n3 ∧ o2.length = (limbs m).length + (limbs n).length ∧ H2 (n0 + 1 + 8 + 1 + 1 + 1 + 1 + 1) = some (1, o2.map (.i .i64)) ∧ fr2 35 = .i .i64 k ∧ fr2 8 = .i .i64 c ∧ 0 ≤ c ∧ c < 1000000000 ∧ Dig o2 ∧ o2[i + (limbs n).length]? = some 0 ∧ val o2 + c * pw (i + k) = val os + x * pw i * val ((limbs n).take k)) (limbs n).length ?_ ?_
      · simp -implicitDefEqProofs (disch := omega) only [↓walk, plain, List.length_map, List.getElem?_map, Option.map_some, Nat.reduceBEq, decT, decF, iteT, iteF, wrap_ok, Int.reduceToNat, Int.reduceLE, Int.reduceLT, Int.reduceAdd, Int.reduceSub, Int.reduceNeg, reduceIte, Nat.reduceEqDiff, Nat.reduceAdd, Nat.reduceSub, Nat.reduceMul, Nat.reduceLeDiff, Nat.reduceShiftRight, Nat.reduceMod, reduceCtorEq]
        exact ⟨0, os, 0, by omega, by omega, hlen, hH, rfl, rfl, by omega, by omega, hd, hz, by simp [val]⟩
      · rintro K' fr2 H2 n3 ⟨k, o2, c, hK', hn3, hlen2, hH2, f27, f8, hc0, hc1, hd2, hz2, hv2⟩
        simp -implicitDefEqProofs (disch := omega) only [↓walk, plain, List.length_map, List.getElem?_map, Option.map_some, Nat.reduceBEq, iteT, iteF, wrap_ok, Int.reduceToNat, Int.reduceLE, Int.reduceLT, Int.reduceAdd, Int.reduceSub, Int.reduceNeg, reduceIte, Nat.reduceEqDiff, Nat.reduceAdd, Nat.reduceSub, Nat.reduceMul, Nat.reduceLeDiff, Nat.reduceShiftRight, Nat.reduceMod, reduceCtorEq, f27]
        refine goC_dec (fun h1 => ?_) (fun h1 => ?_)
        · obtain ⟨y, hy⟩ := getc (xs := limbs n) (i := k) (by omega)
          obtain ⟨o, ho⟩ := getc (xs := o2) (i := i + k) (by omega)
          have dy := dn.at hy
          have dO := hd2.at ho
          have hb := mul_bound dx.1 dx.2 dy.1 dy.2
          obtain ⟨q1, q2⟩ := qr (s := o + x * y + c) (by omega)
          have e1 : (i : Int) + k = ((i + k : Nat) : Int) := by omega
          have hset : (o2.map (AV.i .i64)).set (i + k) (.i .i64 ((o + x * y + c) % 1000000000)) = (o2.set (i + k) ((o + x * y + c) % 1000000000)).map (.i .i64) := by rw [List.map_set]
          simp -implicitDefEqProofs (disch := omega) only [↓walk, plain, List.length_map, List.getElem?_map, Option.map_some, Nat.reduceBEq, decT, decF, iteT, iteF, wrap_ok, Int.reduceToNat, Int.reduceLE, Int.reduceLT, Int.reduceAdd, Int.reduceSub, Int.reduceNeg, reduceIte, Nat.reduceEqDiff, Nat.reduceAdd, Nat.reduceSub, Nat.reduceMul, Nat.reduceLeDiff, Nat.reduceShiftRight, Nat.reduceMod, reduceCtorEq, f27, f8, hy, e1, hH2, ho, q1, q2, hset]
          refine ⟨K' - 1, by omega, k + 1, o2.set (i + k) ((o + x * y + c) % 1000000000), (o + x * y + c) / 1000000000, by omega, by omega, by simpa using hlen2, rfl, rfl, rfl, by omega, by omega, hd2.set (by omega) (by omega), ?_, ?_⟩
          · rw [List.getElem?_set_ne (by omega)]; exact hz2
          · exact mul_step hv2 ho hy (by omega)
        · have hk : k = (limbs n).length := by omega
          subst hk
          rw [take_all (Nat.le_refl _)] at hv2
          have e1 : (i : Int) + (limbs n).length = ((i + (limbs n).length : Nat) : Int) := by omega
          have hset : (o2.map (AV.i .i64)).set (i + (limbs n).length) (.i .i64 c) = (o2.set (i + (limbs n).length) c).map (.i .i64) := by rw [List.map_set]
          simp -implicitDefEqProofs (disch := omega) only [↓walk, plain, List.length_map, List.getElem?_map, Option.map_some, Nat.reduceBEq, decT, decF, iteT, iteF, wrap_ok, Int.reduceToNat, Int.reduceLE, Int.reduceLT, Int.reduceAdd, Int.reduceSub, Int.reduceNeg, reduceIte, Nat.reduceEqDiff, Nat.reduceAdd, Nat.reduceSub, Nat.reduceMul, Nat.reduceLeDiff, Nat.reduceShiftRight, Nat.reduceMod, reduceCtorEq, f27, f8, f20, e1, hH2, hz2, hset]
          exact ⟨K - 1, by omega, i + 1, _, by omega, by omega, by simpa using hlen2, rfl, rfl, hd2.set (by omega) (by omega), mul_row hv hv2 hx hz2 _ (by omega)⟩
    · simp -implicitDefEqProofs (disch := omega) only [↓walk, plain, List.length_map, List.getElem?_map, Option.map_some, Nat.reduceBEq, decT, decF, iteT, iteF, wrap_ok, Int.reduceToNat, Int.reduceLE, Int.reduceLT, Int.reduceAdd, Int.reduceSub, Int.reduceNeg, reduceIte, Nat.reduceEqDiff, Nat.reduceAdd, Nat.reduceSub, Nat.reduceMul, Nat.reduceLeDiff, Nat.reduceShiftRight, Nat.reduceMod, reduceCtorEq]
      rw [← hlen]
      refine goCall_mc0 (k_spec_l02Trim.1 _ _ _ os (by omega) hH) ?_
      rintro v H2 n3 ⟨rfl, _, k2, hk2, rfl, ht⟩
      simp -implicitDefEqProofs (disch := omega) only [↓walk, plain, List.length_map, List.getElem?_map, Option.map_some, Nat.reduceBEq, decT, decF, iteT, iteF, wrap_ok, Int.reduceToNat, Int.reduceLE, Int.reduceLT, Int.reduceAdd, Int.reduceSub, Int.reduceNeg, reduceIte, Nat.reduceEqDiff, Nat.reduceAdd, Nat.reduceSub, Nat.reduceMul, Nat.reduceLeDiff, Nat.reduceShiftRight, Nat.reduceMod, reduceCtorEq]
      rw [take_all (by omega), val_limbs, val_limbs] at hv
      rw [← trim_val (n := m * n) hd (by rw [hv]; simp) hk2 ht.1 ht.2]
      exact takeI (n2 := n3) hk2 (by omega) hH
def c_spec_l02Small (n_spec_l02Trim : Nat) : AF := ⟨39, .seq (.ops [⟨(some 4), .mv (.c .nl), none, []⟩,
   ⟨(some 5), .mv (.c (.i .i64 0)), none, []⟩])
  (.seq (.ops [⟨(some 10), .mv (.t 0), none, []⟩,
   ⟨(some 11), .len (.t 10), none, []⟩,
   ⟨(some 12), .mks (.i .i64 0) 8 (.t 11) (.t 11), none, []⟩,
   ⟨(some 6), .mv (.t 12), none, []⟩])
  (.seq (.ops [⟨(some 7), .mv (.c (.i .i64 0)), none, []⟩])
  (.seq (.seq (.ops [⟨(some 13), .mv (.t 0), none, []⟩,
   ⟨(some 14), .len (.t 13), none, []⟩,
   ⟨(some 15), .bin .sub (.t 14) (.c (.i .i64 1)), none, []⟩,
   ⟨(some 8), .mv (.t 15), none, []⟩])
  (.block 0 (.loop (.seq (.seq (.ops [⟨(some 16), .mv (.t 8), none, []⟩,
   ⟨(some 17), .bin .geq (.t 16) (.c (.i .i64 0)), none, []⟩])
  (.cond (.t 17)
  (.skip)
  (.exit 0)))
  (.seq (.block 1 (.seq (.ops [⟨(some 20), .mv (.t 7), none, []⟩,
   ⟨(some 21), .bin .mul (.t 20) (.c (.i .i64 1000000000)), none, []⟩,
   ⟨(some 22), .mv (.t 0), none, []⟩,
   ⟨(some 23), .mv (.t 8), none, []⟩,
   ⟨(some 24), .iad 1 (.t 22) (.t 23), none, []⟩,
   ⟨(some 25), .ld none (.t 24), none, []⟩,
   ⟨(some 26), .bin .add (.t 21) (.t 25), none, []⟩,
   ⟨(some 9), .mv (.t 26), none, []⟩])
  (.seq (.ops [⟨(some 27), .mv (.t 6), none, []⟩,
   ⟨(some 28), .mv (.t 8), none, []⟩,
   ⟨(some 29), .mv (.t 9), none, []⟩,
   ⟨(some 30), .mv (.t 1), none, []⟩,
   ⟨(some 31), .bin .quo (.t 29) (.t 30), none, []⟩,
   ⟨(some 32), .iad 1 (.t 27) (.t 28), none, []⟩,
   ⟨none, .st none (.t 32) (.t 31), none, []⟩])
  (.ops [⟨(some 33), .mv (.t 9), none, []⟩,
   ⟨(some 34), .mv (.t 1), none, []⟩,
   ⟨(some 35), .bin .rem (.t 33) (.t 34), none, []⟩,
   ⟨(some 7), .mv (.t 35), none, []⟩]))))
  (.ops [⟨(some 18), .mv (.t 8), none, []⟩,
   ⟨(some 19), .bin .sub (.t 18) (.c (.i .i64 1)), none, []⟩,
   ⟨(some 8), .mv (.t 19), none, []⟩]))))))
  (.seq (.ops [⟨(some 36), .mv (.t 6), none, []⟩,
   ⟨(some 37), .call true n_spec_l02Trim [(.t 36)], none, []⟩,
   ⟨(some 38), .mv (.t 7), none, []⟩,
   ⟨(some 4), .mv (.t 37), none, []⟩,
   ⟨(some 5), .mv (.t 38), none, []⟩])
  (.ret))))), [.t 4, .t 5]⟩
def K_spec_l02Small (P : Program) (f : Nat) : Prop := ∀ m d : Nat, 0 < d → d < 1000000000 → (limbs m).length ≤ 4096 → PC P f [ints (limbs m), .i .i64 d] (fun n => .tup [.sl (some n) ((limbs (m / d)).map (.i .i64)), .i .i64 ((m % d : Nat) : Int)]) 1 False
theorem t_spec_l02Small {P : Program} {f n_spec_l02Trim : Nat} (h : Has P f (c_spec_l02Small n_spec_l02Trim)) (k_spec_l02Trim : K_spec_l02Trim P n_spec_l02Trim) : K_spec_l02Small P f := by
  intro m d hd0 hd1 hm
  refine pc_go h (by simp) ?_
  have dm := limbs_dig m
  simp -implicitDefEqProofs (disch := omega) only [↓walk, plain, List.length_map, List.getElem?_map, Option.map_some, Nat.reduceBEq, decT, decF, iteT, iteF, wrap_ok, Int.reduceToNat, Int.reduceLE, Int.reduceLT, Int.reduceAdd, Int.reduceSub, Int.reduceNeg, reduceIte, Nat.reduceEqDiff, Nat.reduceAdd, Nat.reduceSub, Nat.reduceMul, Nat.reduceLeDiff, Nat.reduceShiftRight, Nat.reduceMod, reduceCtorEq, ints, rep_map, maxB]
  refine go_loopm 68719412096 (by first | rfl | (simp only [mods, modsL, modsD, optB]; rfl)) (fun K fr H n2 => ∃ (os : List Int) (r : Int), K ≤ (limbs m).length ∧ 5 ≤ n2 ∧ os.length = (limbs m).length ∧ H 4 = some (1, os.map (.i .i64)) ∧ fr 8 = .i .i64 (K - 1) ∧ fr 7 = .i .i64 r ∧ 0 ≤ r ∧ r < d ∧ Dig os ∧ val ((limbs m).drop K) = val (os.drop K) * d + r) (limbs m).length ?_ ?_
  · simp -implicitDefEqProofs (disch := omega) only [↓walk, plain, List.length_map, List.getElem?_map, Option.map_some, Nat.reduceBEq, decT, decF, iteT, iteF, wrap_ok, Int.reduceToNat, Int.reduceLE, Int.reduceLT, Int.reduceAdd, Int.reduceSub, Int.reduceNeg, reduceIte, Nat.reduceEqDiff, Nat.reduceAdd, Nat.reduceSub, Nat.reduceMul, Nat.reduceLeDiff, Nat.reduceShiftRight, Nat.reduceMod, reduceCtorEq]
    refine ⟨List.replicate (limbs m).length 0, 0, ?_⟩
    (repeat' first | refine And.intro ?_ ?_ | rfl | omega | assumption | exact trivial | (dsimp only; omega))
    · simp
    · exact Dig.replicate _
    · rw [List.drop_length, List.drop_of_length_le (by simp)]; simp [val]
  · rintro K fr H n2 ⟨os, r, hK, hn2, hlen, hH, f8, f7, hr0, hr1, hd, hv⟩
    simp -implicitDefEqProofs (disch := omega) only [↓walk, plain, List.length_map, List.getElem?_map, Option.map_some, Nat.reduceBEq, iteT, iteF, wrap_ok, Int.reduceToNat, Int.reduceLE, Int.reduceLT, Int.reduceAdd, Int.reduceSub, Int.reduceNeg, reduceIte, Nat.reduceEqDiff, Nat.reduceAdd, Nat.reduceSub, Nat.reduceMul, Nat.reduceLeDiff, Nat.reduceShiftRight, Nat.reduceMod, reduceCtorEq, f8]
    refine goC_dec (fun h0 => ?_) (fun h0 => ?_)
    · obtain ⟨a, ha⟩ := getc (xs := limbs m) (i := K - 1) (by omega)
      obtain ⟨o, ho⟩ := getc (xs := os) (i := K - 1) (by omega)
      have da := dm.at ha
      obtain ⟨b1, b2, b3, b4⟩ := div_bound hr0 hr1 da.1 da.2 (by omega)
      have q1 : Int.tdiv (r * 1000000000 + a) d = (r * 1000000000 + a) / d := Int.tdiv_eq_ediv_of_nonneg b1
      have q2 : Int.tmod (r * 1000000000 + a) d = (r * 1000000000 + a) % d := Int.tmod_eq_emod_of_nonneg b1
      have e1 : (K : Int) - 1 = ((K - 1 : Nat) : Int) := by omega
      have hset : (os.map (AV.i .i64)).set (K - 1) (.i .i64 ((r * 1000000000 + a) / d)) = (os.set (K - 1) ((r * 1000000000 + a) / d)).map (.i .i64) := by rw [List.map_set]
      simp -implicitDefEqProofs (disch := omega) only [↓walk, plain, List.length_map, List.getElem?_map, Option.map_some, Nat.reduceBEq, decT, decF, iteT, iteF, wrap_ok, Int.reduceToNat, Int.reduceLE, Int.reduceLT, Int.reduceAdd, Int.reduceSub, Int.reduceNeg, reduceIte, Nat.reduceEqDiff, Nat.reduceAdd, Nat.reduceSub, Nat.reduceMul, Nat.reduceLeDiff, Nat.reduceShiftRight, Nat.reduceMod, reduceCtorEq, f8, f7, e1, ha, ho, hH, q1, q2, hset]
      have m1 := Int.emod_nonneg (r * 1000000000 + a) (show (d : Int) ≠ 0 by omega)
      have m2 := Int.emod_lt_of_pos (r * 1000000000 + a) (show 0 < (d : Int) by omega)
      have m3 := Int.ediv_mul_add_emod (r * 1000000000 + a) d
      refine ⟨K - 1, by omega, os.set (K - 1) ((r * 1000000000 + a) / d), (r * 1000000000 + a) % d, ?_⟩
      (repeat' first | refine And.intro ?_ ?_ | rfl | omega | assumption | exact trivial | (dsimp only; omega))
      · simpa using hlen
      · exact hd.set b4 b3
      · exact small_step (i := K - 1) (by rw [show K - 1 + 1 = K by omega]; exact hv) ha (by omega) m3
    · have hK0 : K = 0 := by omega
      subst hK0
      simp -implicitDefEqProofs (disch := omega) only [↓walk, plain, List.length_map, List.getElem?_map, Option.map_some, Nat.reduceBEq, decT, decF, iteT, iteF, wrap_ok, Int.reduceToNat, Int.reduceLE, Int.reduceLT, Int.reduceAdd, Int.reduceSub, Int.reduceNeg, reduceIte, Nat.reduceEqDiff, Nat.reduceAdd, Nat.reduceSub, Nat.reduceMul, Nat.reduceLeDiff, Nat.reduceShiftRight, Nat.reduceMod, reduceCtorEq, f7]
      rw [← hlen]
      refine goCall_mc0 (k_spec_l02Trim.1 _ _ _ os (by omega) hH) ?_
      rintro v H2 n3 ⟨rfl, hn3, k2, hk2, rfl, ht⟩
      simp only [List.drop_zero] at hv
      obtain ⟨e1, rfl⟩ := small_end hd hr0 hr1 hv hk2 ht
      simp -implicitDefEqProofs (disch := omega) only [↓walk, plain, List.length_map, List.getElem?_map, Option.map_some, Nat.reduceBEq, decT, decF, iteT, iteF, wrap_ok, Int.reduceToNat, Int.reduceLE, Int.reduceLT, Int.reduceAdd, Int.reduceSub, Int.reduceNeg, reduceIte, Nat.reduceEqDiff, Nat.reduceAdd, Nat.reduceSub, Nat.reduceMul, Nat.reduceLeDiff, Nat.reduceShiftRight, Nat.reduceMod, reduceCtorEq, f7]
      exact (fz_tup (fzl_cons (fz_ints_rf hH (by rw [← e1, List.length_take, Nat.min_eq_left hk2]) (by rw [← e1, List.map_take])) (fzl_cons fz_i fzl_nil))).data (by simp)

end Go.Am
/-! Walks: the reference's division and greatest common divisor. -/
namespace Go.Am
set_option linter.unusedVariables false
set_option linter.unusedSimpArgs false
set_option maxRecDepth 10000
set_option maxHeartbeats 4000000
theorem limbs_mul_len {a b i k : Nat} (h1 : (limbs a).length ≤ i) (h2 : (limbs b).length ≤ k) : (limbs (a * b)).length ≤ i + k := by
  rw [limbs_len_lt] at *
  rw [pw_add, Int.natCast_mul]
  have p1 := pw_pos i
  have p2 := pw_pos k
  have : (a : Int) * b ≤ (pw i - 1) * (pw k - 1) := Int.mul_le_mul (by omega) (by omega) (by omega) (by omega)
  have e : (pw i - 1) * (pw k - 1) = pw i * pw k - pw i - pw k + 1 := by grind
  omega
theorem limbs_add_len {a b k : Nat} (h1 : (limbs a).length ≤ k) (h2 : (limbs b).length ≤ k) : (limbs (a + b)).length ≤ k + 1 := by
  rw [limbs_len_lt] at *
  rw [pw_succ]
  have p1 := pw_pos k
  omega
theorem limbs_max : limbs 9223372036854775807 = [854775807, 223372036, 9] := by
  rw [limbs_pos (by decide), limbs_pos (by decide), limbs_pos (by decide)]
  simp [limbs_zero]
theorem cmpN_le {m n : Nat} : (cmpN m n ≤ 0) ↔ m ≤ n := by unfold cmpN; split <;> (try split) <;> omega
theorem cmpN_lt0 {m n : Nat} : (cmpN m n < 0) ↔ m < n := by unfold cmpN; split <;> (try split) <;> omega
theorem cmpN_gt0 {m n : Nat} : (cmpN m n > 0) ↔ n < m := by unfold cmpN; split <;> (try split) <;> omega
theorem cmpN_ge0 {m n : Nat} : (cmpN m n ≥ 0) ↔ n ≤ m := by unfold cmpN; split <;> (try split) <;> omega
theorem val_drop_le {m i : Nat} (h : m ≤ 9223372036854775807) (hi : i ≤ (limbs m).length) : 0 ≤ val ((limbs m).drop i) ∧ val ((limbs m).drop i) ≤ 9223372036854775807 := by
  have h1 := val_split (limbs m) i hi
  rw [val_limbs] at h1
  have h2 := ((limbs_dig m).take i).nonneg
  have h3 := ((limbs_dig m).drop i).nonneg
  have h4 := pw_pos i
  have h5 := Int.mul_le_mul_of_nonneg_right (show (1 : Int) ≤ pw i by omega) h3
  omega
def c_spec_NatToInt (n_spec_NatOk : Nat) (n_spec_l02Cmp : Nat) : AF := ⟨30, .seq (.ops [⟨(some 2), .mv (.c (.i .i64 0)), none, []⟩,
   ⟨(some 3), .mv (.c (.b false)), none, []⟩])
  (.seq (.seq (.ops [⟨(some 6), .mv (.t 0), none, []⟩,
   ⟨(some 7), .call true n_spec_NatOk [(.t 6)], none, []⟩,
   ⟨(some 8), .not (.t 7), none, []⟩,
   ⟨(some 9), .mv (.t 8), none, []⟩,
   ⟨(some 10), .mv (.t 0), some (9, false), []⟩,
   ⟨(some 11), .bsl (.i .i64 0) 3 [(0, (.c (.i .i64 854775807))), (1, (.c (.i .i64 223372036))), (2, (.c (.i .i64 9)))], some (9, false), []⟩,
   ⟨(some 12), .call true n_spec_l02Cmp [(.t 10), (.t 11)], some (9, false), []⟩,
   ⟨(some 13), .bin .gtr (.t 12) (.c (.i .i64 0)), some (9, false), []⟩,
   ⟨(some 14), .pick (.t 9) (.c (.b true)) (.t 13), none, []⟩])
  (.cond (.t 14)
  (.seq (.ops [⟨(some 2), .mv (.c (.i .i64 0)), none, []⟩,
    ⟨(some 3), .mv (.c (.b false)), none, []⟩])
   (.ret))
  (.skip)))
  (.seq (.ops [⟨(some 4), .mv (.c (.i .i64 0)), none, []⟩])
  (.seq (.seq (.ops [⟨(some 15), .mv (.t 0), none, []⟩,
   ⟨(some 16), .len (.t 15), none, []⟩,
   ⟨(some 17), .bin .sub (.t 16) (.c (.i .i64 1)), none, []⟩,
   ⟨(some 5), .mv (.t 17), none, []⟩])
  (.block 0 (.loop (.seq (.seq (.ops [⟨(some 18), .mv (.t 5), none, []⟩,
   ⟨(some 19), .bin .geq (.t 18) (.c (.i .i64 0)), none, []⟩])
  (.cond (.t 19)
  (.skip)
  (.exit 0)))
  (.seq (.block 1 (.ops [⟨(some 22), .mv (.t 4), none, []⟩,
   ⟨(some 23), .bin .mul (.t 22) (.c (.i .i64 1000000000)), none, []⟩,
   ⟨(some 24), .mv (.t 0), none, []⟩,
   ⟨(some 25), .mv (.t 5), none, []⟩,
   ⟨(some 26), .iad 1 (.t 24) (.t 25), none, []⟩,
   ⟨(some 27), .ld none (.t 26), none, []⟩,
   ⟨(some 28), .bin .add (.t 23) (.t 27), none, []⟩,
   ⟨(some 4), .mv (.t 28), none, []⟩]))
  (.ops [⟨(some 20), .mv (.t 5), none, []⟩,
   ⟨(some 21), .bin .sub (.t 20) (.c (.i .i64 1)), none, []⟩,
   ⟨(some 5), .mv (.t 21), none, []⟩]))))))
  (.seq (.ops [⟨(some 29), .mv (.t 4), none, []⟩,
   ⟨(some 2), .mv (.t 29), none, []⟩,
   ⟨(some 3), .mv (.c (.b true)), none, []⟩])
  (.ret))))), [.t 2, .t 3]⟩
def K_spec_NatToInt (P : Program) (f : Nat) : Prop := ∀ m : Nat, m ≤ 9223372036854775807 → SC P f [ints (limbs m)] (.tup [.i .i64 m, .b true])
theorem t_spec_NatToInt {P : Program} {f n_spec_NatOk n_spec_l02Cmp : Nat} (h : Has P f (c_spec_NatToInt n_spec_NatOk n_spec_l02Cmp)) (k_spec_NatOk : K_spec_NatOk P n_spec_NatOk) (k_spec_l02Cmp : K_spec_l02Cmp P n_spec_l02Cmp) : K_spec_NatToInt P f := by
  intro m hm
  refine sc_go h (by simp) ?_
  have hl : (limbs m).length ≤ 3 := by rw [limbs_len_lt]; simp only [pw]; omega
  simp -implicitDefEqProofs (disch := omega) only [↓walk, plain, List.length_map, List.getElem?_map, Option.map_some, Nat.reduceBEq, decT, decF, iteT, iteF, wrap_ok, Int.reduceToNat, Int.reduceLE, Int.reduceLT, Int.reduceAdd, Int.reduceSub, Int.reduceNeg, reduceIte, Nat.reduceEqDiff, Nat.reduceAdd, Nat.reduceSub, Nat.reduceMul, Nat.reduceLeDiff, Nat.reduceShiftRight, Nat.reduceMod, reduceCtorEq, ints]
  refine goCall_sc (k_spec_NatOk (limbs m) (by omega)) (by repeat (first | exact vws_nil | refine vws_cons ?_ ?_ | exact vw_bb | exact vw_ii | exact vw_ss | exact vw_ints | exact vw_ints0 | exact vw_nn | exact vw_n0 | exact vwl_nil | refine vwl_cons ?_ ?_ | refine vw_agg ?_ | refine vw_fn ?_ | assumption)) ?_
  rw [nok_t (NOk.of (by omega))]
  simp -implicitDefEqProofs (disch := omega) only [↓walk, plain, List.length_map, List.getElem?_map, Option.map_some, Nat.reduceBEq, decT, decF, iteT, iteF, wrap_ok, Int.reduceToNat, Int.reduceLE, Int.reduceLT, Int.reduceAdd, Int.reduceSub, Int.reduceNeg, reduceIte, Nat.reduceEqDiff, Nat.reduceAdd, Nat.reduceSub, Nat.reduceMul, Nat.reduceLeDiff, Nat.reduceShiftRight, Nat.reduceMod, reduceCtorEq]
  refine goCall_sc (k_spec_l02Cmp m 9223372036854775807 (by omega) (by rw [limbs_max]; decide)) (vws_cons vw_ints (vws_cons (vw_rf_ints (z := 1) (es := [.i .i64 854775807, .i .i64 223372036, .i .i64 9]) (by simp -implicitDefEqProofs (disch := omega) only [↓walk, plain, List.length_map, List.getElem?_map, Option.map_some, Nat.reduceBEq, decT, decF, iteT, iteF, wrap_ok, Int.reduceToNat, Int.reduceLE, Int.reduceLT, Int.reduceAdd, Int.reduceSub, Int.reduceNeg, reduceIte, Nat.reduceEqDiff, Nat.reduceAdd, Nat.reduceSub, Nat.reduceMul, Nat.reduceLeDiff, Nat.reduceShiftRight, Nat.reduceMod, reduceCtorEq]) trivial (by rw [limbs_max]; rfl) (by rw [limbs_max]; rfl)) vws_nil)) ?_
  have hc := cmpN_le.2 hm
  simp -implicitDefEqProofs (disch := omega) only [↓walk, plain, List.length_map, List.getElem?_map, Option.map_some, Nat.reduceBEq, decT, decF, iteT, iteF, wrap_ok, Int.reduceToNat, Int.reduceLE, Int.reduceLT, Int.reduceAdd, Int.reduceSub, Int.reduceNeg, reduceIte, Nat.reduceEqDiff, Nat.reduceAdd, Nat.reduceSub, Nat.reduceMul, Nat.reduceLeDiff, Nat.reduceShiftRight, Nat.reduceMod, reduceCtorEq]
  refine go_loopm 536608816 (by first | rfl | (simp only [mods, modsL, modsD, optB]; rfl)) (fun k fr H n => k ≤ (limbs m).length ∧ fr 5 = .i .i64 (k - 1) ∧ fr 4 = .i .i64 (val ((limbs m).drop k))) (limbs m).length ?_ ?_
  · simp -implicitDefEqProofs (disch := omega) only [↓walk, plain, List.length_map, List.getElem?_map, Option.map_some, Nat.reduceBEq, decT, decF, iteT, iteF, wrap_ok, Int.reduceToNat, Int.reduceLE, Int.reduceLT, Int.reduceAdd, Int.reduceSub, Int.reduceNeg, reduceIte, Nat.reduceEqDiff, Nat.reduceAdd, Nat.reduceSub, Nat.reduceMul, Nat.reduceLeDiff, Nat.reduceShiftRight, Nat.reduceMod, reduceCtorEq]
    (repeat' first | refine And.intro ?_ ?_ | rfl | omega | assumption | exact trivial | (dsimp only; omega))
    rw [List.drop_length]; rfl
  · rintro k fr H n ⟨hk, f5, f4⟩
    simp -implicitDefEqProofs (disch := omega) only [↓walk, plain, List.length_map, List.getElem?_map, Option.map_some, Nat.reduceBEq, iteT, iteF, wrap_ok, Int.reduceToNat, Int.reduceLE, Int.reduceLT, Int.reduceAdd, Int.reduceSub, Int.reduceNeg, reduceIte, Nat.reduceEqDiff, Nat.reduceAdd, Nat.reduceSub, Nat.reduceMul, Nat.reduceLeDiff, Nat.reduceShiftRight, Nat.reduceMod, reduceCtorEq, f5]
    refine goC_dec (fun h0 => ?_) (fun h0 => ?_)
    · obtain ⟨a, ha⟩ := getc (xs := limbs m) (i := k - 1) (by omega)
      have b1 := val_drop_le hm (i := k - 1) (by omega)
      have b2 := val_drop_le hm hk
      have e0 := val_drop ha
      rw [show k - 1 + 1 = k by omega] at e0
      have da := (limbs_dig m).at ha
      have e1 : (k : Int) - 1 = ((k - 1 : Nat) : Int) := by omega
      simp -implicitDefEqProofs (disch := omega) only [↓walk, plain, List.length_map, List.getElem?_map, Option.map_some, Nat.reduceBEq, decT, decF, iteT, iteF, wrap_ok, Int.reduceToNat, Int.reduceLE, Int.reduceLT, Int.reduceAdd, Int.reduceSub, Int.reduceNeg, reduceIte, Nat.reduceEqDiff, Nat.reduceAdd, Nat.reduceSub, Nat.reduceMul, Nat.reduceLeDiff, Nat.reduceShiftRight, Nat.reduceMod, reduceCtorEq, f5, f4, e1, ha]
      refine ⟨k - 1, ?_⟩
      (repeat' first | refine And.intro ?_ ?_ | rfl | omega | assumption | exact trivial | (dsimp only; omega))
      congr 1
      omega
    · simp -implicitDefEqProofs (disch := omega) only [↓walk, plain, List.length_map, List.getElem?_map, Option.map_some, Nat.reduceBEq, decT, decF, iteT, iteF, wrap_ok, Int.reduceToNat, Int.reduceLE, Int.reduceLT, Int.reduceAdd, Int.reduceSub, Int.reduceNeg, reduceIte, Nat.reduceEqDiff, Nat.reduceAdd, Nat.reduceSub, Nat.reduceMul, Nat.reduceLeDiff, Nat.reduceShiftRight, Nat.reduceMod, reduceCtorEq, f4]
      have : k = 0 := by omega
      subst this
      rw [List.drop_zero, val_limbs]
      exact Data.flat (.tup _ (by intro x hx; simp at hx; rcases hx with rfl | rfl; exact .i _ _; exact .b _))
def c_spec_l02Digit (n_spec_NatOf : Nat) (n_spec_l02Mul : Nat) (n_spec_l02Cmp : Nat) : AF := ⟨27, .seq (.ops [⟨(some 4), .mv (.c (.i .i64 0)), none, []⟩])
  (.seq (.ops [⟨(some 5), .mv (.c (.i .i64 0)), none, []⟩])
  (.seq (.ops [⟨(some 6), .mv (.c (.i .i64 999999999)), none, []⟩])
  (.seq (.block 0 (.loop (.seq (.seq (.ops [⟨(some 8), .mv (.t 5), none, []⟩,
   ⟨(some 9), .mv (.t 6), none, []⟩,
   ⟨(some 10), .bin .lss (.t 8) (.t 9), none, []⟩])
  (.cond (.t 10)
  (.skip)
  (.exit 0)))
  (.block 1 (.seq (.ops [⟨(some 11), .mv (.t 5), none, []⟩,
   ⟨(some 12), .mv (.t 6), none, []⟩,
   ⟨(some 13), .bin .add (.t 11) (.t 12), none, []⟩,
   ⟨(some 14), .bin .add (.t 13) (.c (.i .i64 1)), none, []⟩,
   ⟨(some 15), .bin .quo (.t 14) (.c (.i .i64 2)), none, []⟩,
   ⟨(some 7), .mv (.t 15), none, []⟩])
  (.seq (.ops [⟨(some 16), .mv (.t 1), none, []⟩,
   ⟨(some 17), .mv (.t 7), none, []⟩,
   ⟨(some 18), .call true n_spec_NatOf [(.t 17)], none, []⟩,
   ⟨(some 19), .call true n_spec_l02Mul [(.t 16), (.t 18)], none, []⟩,
   ⟨(some 20), .mv (.t 0), none, []⟩,
   ⟨(some 21), .call true n_spec_l02Cmp [(.t 19), (.t 20)], none, []⟩,
   ⟨(some 22), .bin .leq (.t 21) (.c (.i .i64 0)), none, []⟩])
  (.cond (.t 22)
  (.ops [⟨(some 23), .mv (.t 7), none, []⟩,
    ⟨(some 5), .mv (.t 23), none, []⟩])
  (.ops [⟨(some 24), .mv (.t 7), none, []⟩,
    ⟨(some 25), .bin .sub (.t 24) (.c (.i .i64 1)), none, []⟩,
    ⟨(some 6), .mv (.t 25), none, []⟩]))))))))
  (.seq (.ops [⟨(some 26), .mv (.t 5), none, []⟩,
   ⟨(some 4), .mv (.t 26), none, []⟩])
  (.ret))))), [.t 4]⟩
def K_spec_l02Digit (P : Program) (f : Nat) : Prop := ∀ r b : Nat, 0 < b → r < 1000000000 * b → (limbs r).length ≤ 200 → (limbs b).length ≤ 200 → SC P f [ints (limbs r), ints (limbs b)] (.i .i64 ((r / b : Nat) : Int))
theorem t_spec_l02Digit {P : Program} {f n_spec_NatOf n_spec_l02Mul n_spec_l02Cmp : Nat} (h : Has P f (c_spec_l02Digit n_spec_NatOf n_spec_l02Mul n_spec_l02Cmp)) (k_spec_NatOf : K_spec_NatOf P n_spec_NatOf) (k_spec_l02Mul : K_spec_l02Mul P n_spec_l02Mul) (k_spec_l02Cmp : K_spec_l02Cmp P n_spec_l02Cmp) : K_spec_l02Digit P f := by
  intro r b hb hr hlr hlb
  refine sc_go h (by simp) ?_
  simp -implicitDefEqProofs (disch := omega) only [↓walk, plain, List.length_map, List.getElem?_map, Option.map_some, Nat.reduceBEq, decT, decF, iteT, iteF, wrap_ok, Int.reduceToNat, Int.reduceLE, Int.reduceLT, Int.reduceAdd, Int.reduceSub, Int.reduceNeg, reduceIte, Nat.reduceEqDiff, Nat.reduceAdd, Nat.reduceSub, Nat.reduceMul, Nat.reduceLeDiff, Nat.reduceShiftRight, Nat.reduceMod, reduceCtorEq, ints]
  have hq : r / b < 1000000000 := by rw [Nat.div_lt_iff_lt_mul hb]; omega
  obtain ⟨q, hqe⟩ : ∃ q, q = r / b := ⟨_, rfl⟩
  rw [← hqe] at hq ⊢
  refine go_loopm 67108832 (by first | rfl | (simp only [mods, modsL, modsD, optB]; rfl)) (fun k fr H n => ∃ lo hi : Nat, fr 5 = .i .i64 lo ∧ fr 6 = .i .i64 hi ∧ lo ≤ q ∧ q ≤ hi ∧ hi < 1000000000 ∧ k = hi - lo) 999999999 ?_ ?_
  · simp -implicitDefEqProofs (disch := omega) only [↓walk, plain, List.length_map, List.getElem?_map, Option.map_some, Nat.reduceBEq, decT, decF, iteT, iteF, wrap_ok, Int.reduceToNat, Int.reduceLE, Int.reduceLT, Int.reduceAdd, Int.reduceSub, Int.reduceNeg, reduceIte, Nat.reduceEqDiff, Nat.reduceAdd, Nat.reduceSub, Nat.reduceMul, Nat.reduceLeDiff, Nat.reduceShiftRight, Nat.reduceMod, reduceCtorEq]
    exact ⟨0, 999999999, rfl, rfl, by omega, by omega, by omega, by omega⟩
  · rintro k fr H n ⟨lo, hi, f5, f6, h1, h2, h3, rfl⟩
    simp -implicitDefEqProofs (disch := omega) only [↓walk, plain, List.length_map, List.getElem?_map, Option.map_some, Nat.reduceBEq, iteT, iteF, wrap_ok, Int.reduceToNat, Int.reduceLE, Int.reduceLT, Int.reduceAdd, Int.reduceSub, Int.reduceNeg, reduceIte, Nat.reduceEqDiff, Nat.reduceAdd, Nat.reduceSub, Nat.reduceMul, Nat.reduceLeDiff, Nat.reduceShiftRight, Nat.reduceMod, reduceCtorEq, f5, f6]
    refine goC_dec (fun h0 => ?_) (fun h0 => ?_)
    · have e1 : Int.tdiv ((lo : Int) + hi + 1) 2 = (((lo + hi + 1) / 2 : Nat) : Int) := by
        rw [Int.tdiv_eq_ediv_of_nonneg (by omega)]; omega
      simp -implicitDefEqProofs (disch := omega) only [↓walk, plain, List.length_map, List.getElem?_map, Option.map_some, Nat.reduceBEq, decT, decF, iteT, iteF, wrap_ok, Int.reduceToNat, Int.reduceLE, Int.reduceLT, Int.reduceAdd, Int.reduceSub, Int.reduceNeg, reduceIte, Nat.reduceEqDiff, Nat.reduceAdd, Nat.reduceSub, Nat.reduceMul, Nat.reduceLeDiff, Nat.reduceShiftRight, Nat.reduceMod, reduceCtorEq, f5, f6, e1]
      refine goCall_fc (OCI.fc (k_spec_NatOf (((lo + hi + 1) / 2 : Nat) : Int) (by omega))) (by repeat (first | exact vws_nil | refine vws_cons ?_ ?_ | exact vw_bb | exact vw_ii | exact vw_ss | exact vw_ints | exact vw_ints0 | exact vw_nn | exact vw_n0 | exact vwl_nil | refine vwl_cons ?_ ?_ | refine vw_agg ?_ | refine vw_fn ?_ | assumption)) ?_
      simp -implicitDefEqProofs (disch := omega) only [↓walk, plain, List.length_map, List.getElem?_map, Option.map_some, Nat.reduceBEq, decT, decF, iteT, iteF, wrap_ok, Int.reduceToNat, Int.reduceLE, Int.reduceLT, Int.reduceAdd, Int.reduceSub, Int.reduceNeg, reduceIte, Nat.reduceEqDiff, Nat.reduceAdd, Nat.reduceSub, Nat.reduceMul, Nat.reduceLeDiff, Nat.reduceShiftRight, Nat.reduceMod, reduceCtorEq]
      have hlq : (limbs ((lo + hi + 1) / 2)).length ≤ 4 := by rw [limbs_len_lt]; simp only [pw]; omega
      refine goCall_fc (OCI.fc (k_spec_l02Mul b ((lo + hi + 1) / 2) (by omega) (by omega))) (by repeat (first | exact vws_nil | refine vws_cons ?_ ?_ | exact vw_bb | exact vw_ii | exact vw_ss | exact vw_ints | exact vw_ints0 | exact vw_nn | exact vw_n0 | exact vwl_nil | refine vwl_cons ?_ ?_ | refine vw_agg ?_ | refine vw_fn ?_ | assumption)) ?_
      simp -implicitDefEqProofs (disch := omega) only [↓walk, plain, List.length_map, List.getElem?_map, Option.map_some, Nat.reduceBEq, decT, decF, iteT, iteF, wrap_ok, Int.reduceToNat, Int.reduceLE, Int.reduceLT, Int.reduceAdd, Int.reduceSub, Int.reduceNeg, reduceIte, Nat.reduceEqDiff, Nat.reduceAdd, Nat.reduceSub, Nat.reduceMul, Nat.reduceLeDiff, Nat.reduceShiftRight, Nat.reduceMod, reduceCtorEq]
      have hlm : (limbs (b * ((lo + hi + 1) / 2))).length ≤ 204 := by
        have := limbs_mul_len hlb hlq; omega
      refine goCall_sc (k_spec_l02Cmp (b * ((lo + hi + 1) / 2)) r (by omega) (by omega)) (by repeat (first | exact vws_nil | refine vws_cons ?_ ?_ | exact vw_bb | exact vw_ii | exact vw_ss | exact vw_ints | exact vw_ints0 | exact vw_nn | exact vw_n0 | exact vwl_nil | refine vwl_cons ?_ ?_ | refine vw_agg ?_ | refine vw_fn ?_ | assumption)) ?_
      simp -implicitDefEqProofs (disch := omega) only [↓walk, plain, List.length_map, List.getElem?_map, Option.map_some, Nat.reduceBEq, iteT, iteF, wrap_ok, Int.reduceToNat, Int.reduceLE, Int.reduceLT, Int.reduceAdd, Int.reduceSub, Int.reduceNeg, reduceIte, Nat.reduceEqDiff, Nat.reduceAdd, Nat.reduceSub, Nat.reduceMul, Nat.reduceLeDiff, Nat.reduceShiftRight, Nat.reduceMod, reduceCtorEq]
      refine goC_dec (fun h4 => ?_) (fun h4 => ?_)
      · have h4 := cmpN_le.1 h4
        simp -implicitDefEqProofs (disch := omega) only [↓walk, plain, List.length_map, List.getElem?_map, Option.map_some, Nat.reduceBEq, decT, decF, iteT, iteF, wrap_ok, Int.reduceToNat, Int.reduceLE, Int.reduceLT, Int.reduceAdd, Int.reduceSub, Int.reduceNeg, reduceIte, Nat.reduceEqDiff, Nat.reduceAdd, Nat.reduceSub, Nat.reduceMul, Nat.reduceLeDiff, Nat.reduceShiftRight, Nat.reduceMod, reduceCtorEq]
        have : (lo + hi + 1) / 2 ≤ q := by rw [hqe, Nat.le_div_iff_mul_le hb, Nat.mul_comm]; exact h4
        exact ⟨hi - (lo + hi + 1) / 2, by omega, (lo + hi + 1) / 2, hi, rfl, f6, by omega, by omega, by omega, rfl⟩
      · have h4 : ¬ _ := fun h5 => h4 (cmpN_le.2 h5)
        simp -implicitDefEqProofs (disch := omega) only [↓walk, plain, List.length_map, List.getElem?_map, Option.map_some, Nat.reduceBEq, decT, decF, iteT, iteF, wrap_ok, Int.reduceToNat, Int.reduceLE, Int.reduceLT, Int.reduceAdd, Int.reduceSub, Int.reduceNeg, reduceIte, Nat.reduceEqDiff, Nat.reduceAdd, Nat.reduceSub, Nat.reduceMul, Nat.reduceLeDiff, Nat.reduceShiftRight, Nat.reduceMod, reduceCtorEq, f6]
        have : q < (lo + hi + 1) / 2 := by rw [hqe, Nat.div_lt_iff_lt_mul hb, Nat.mul_comm]; omega
        refine ⟨(lo + hi + 1) / 2 - 1 - lo, by omega, lo, (lo + hi + 1) / 2 - 1, f5, ?_, by omega, by omega, by omega, rfl⟩
        congr 1; omega
    · simp -implicitDefEqProofs (disch := omega) only [↓walk, plain, List.length_map, List.getElem?_map, Option.map_some, Nat.reduceBEq, decT, decF, iteT, iteF, wrap_ok, Int.reduceToNat, Int.reduceLE, Int.reduceLT, Int.reduceAdd, Int.reduceSub, Int.reduceNeg, reduceIte, Nat.reduceEqDiff, Nat.reduceAdd, Nat.reduceSub, Nat.reduceMul, Nat.reduceLeDiff, Nat.reduceShiftRight, Nat.reduceMod, reduceCtorEq, f5]
      exact data_i (by omega)
def c_spec_l02Plain (n_spec_NatOf : Nat) : AF := ⟨15, .seq (.ops [⟨(some 4), .mv (.c .nl), none, []⟩])
  (.seq (.block 0 (.loop (.seq (.seq (.ops [⟨(some 6), .mv (.t 1), none, []⟩,
   ⟨(some 7), .bin .gtr (.t 6) (.c (.i .i64 0)), none, []⟩])
  (.cond (.t 7)
  (.skip)
  (.exit 0)))
  (.block 1 (.seq (.ops [⟨(some 8), .mv (.t 0), none, []⟩,
   ⟨(some 9), .mv (.t 1), none, []⟩,
   ⟨(some 10), .bin .rem (.t 8) (.t 9), none, []⟩,
   ⟨(some 5), .mv (.t 10), none, []⟩])
  (.seq (.ops [⟨(some 11), .mv (.t 1), none, []⟩,
   ⟨(some 0), .mv (.t 11), none, []⟩])
  (.ops [⟨(some 12), .mv (.t 5), none, []⟩,
   ⟨(some 1), .mv (.t 12), none, []⟩])))))))
  (.seq (.ops [⟨(some 13), .mv (.t 0), none, []⟩,
   ⟨(some 14), .call true n_spec_NatOf [(.t 13)], none, []⟩,
   ⟨(some 4), .mv (.t 14), none, []⟩])
  (.ret))), [.t 4]⟩
def K_spec_l02Plain (P : Program) (f : Nat) : Prop := ∀ x y : Nat, x < 9223372036854775808 → y < 9223372036854775808 → FCI P f [.i .i64 x, .i .i64 y] (limbs (Nat.gcd x y))
theorem t_spec_l02Plain {P : Program} {f n_spec_NatOf : Nat} (h : Has P f (c_spec_l02Plain n_spec_NatOf)) (k_spec_NatOf : K_spec_NatOf P n_spec_NatOf) : K_spec_l02Plain P f := by
  intro x y hx hy
  refine pc_go h (by simp) ?_
  simp -implicitDefEqProofs (disch := omega) only [↓walk, plain, List.length_map, List.getElem?_map, Option.map_some, Nat.reduceBEq, decT, decF, iteT, iteF, wrap_ok, Int.reduceToNat, Int.reduceLE, Int.reduceLT, Int.reduceAdd, Int.reduceSub, Int.reduceNeg, reduceIte, Nat.reduceEqDiff, Nat.reduceAdd, Nat.reduceSub, Nat.reduceMul, Nat.reduceLeDiff, Nat.reduceShiftRight, Nat.reduceMod, reduceCtorEq]
  refine go_loopm 8163 (by first | rfl | (simp only [mods, modsL, modsD, optB]; rfl)) (fun k fr H n => ∃ p q : Nat, fr 0 = .i .i64 p ∧ fr 1 = .i .i64 q ∧ Nat.gcd p q = Nat.gcd x y ∧ p < 9223372036854775808 ∧ q < 9223372036854775808 ∧ k = q) y ?_ ?_
  · simp -implicitDefEqProofs (disch := omega) only [↓walk, plain, List.length_map, List.getElem?_map, Option.map_some, Nat.reduceBEq, decT, decF, iteT, iteF, wrap_ok, Int.reduceToNat, Int.reduceLE, Int.reduceLT, Int.reduceAdd, Int.reduceSub, Int.reduceNeg, reduceIte, Nat.reduceEqDiff, Nat.reduceAdd, Nat.reduceSub, Nat.reduceMul, Nat.reduceLeDiff, Nat.reduceShiftRight, Nat.reduceMod, reduceCtorEq]
    exact ⟨x, y, rfl, rfl, rfl, hx, hy, rfl⟩
  · rintro k fr H n ⟨p, q, f0, f1, hg, hp, hq, rfl⟩
    simp -implicitDefEqProofs (disch := omega) only [↓walk, plain, List.length_map, List.getElem?_map, Option.map_some, Nat.reduceBEq, iteT, iteF, wrap_ok, Int.reduceToNat, Int.reduceLE, Int.reduceLT, Int.reduceAdd, Int.reduceSub, Int.reduceNeg, reduceIte, Nat.reduceEqDiff, Nat.reduceAdd, Nat.reduceSub, Nat.reduceMul, Nat.reduceLeDiff, Nat.reduceShiftRight, Nat.reduceMod, reduceCtorEq, f1]
    refine goC_dec (fun h0 => ?_) (fun h0 => ?_)
    · have e1 : Int.tmod (p : Int) k = ((p % k : Nat) : Int) := by rw [Int.tmod_eq_emod_of_nonneg (by omega)]; exact (Int.natCast_emod p k).symm
      simp -implicitDefEqProofs (disch := omega) only [↓walk, plain, List.length_map, List.getElem?_map, Option.map_some, Nat.reduceBEq, decT, decF, iteT, iteF, wrap_ok, Int.reduceToNat, Int.reduceLE, Int.reduceLT, Int.reduceAdd, Int.reduceSub, Int.reduceNeg, reduceIte, Nat.reduceEqDiff, Nat.reduceAdd, Nat.reduceSub, Nat.reduceMul, Nat.reduceLeDiff, Nat.reduceShiftRight, Nat.reduceMod, reduceCtorEq, f0, f1, e1]
      have hlt := Nat.mod_lt p (show 0 < k by omega)
      exact ⟨p % k, hlt, k, p % k, rfl, rfl, by rw [← hg, Nat.gcd_comm k, ← Nat.gcd_rec, Nat.gcd_comm], hq, by omega, rfl⟩
    · simp -implicitDefEqProofs (disch := omega) only [↓walk, plain, List.length_map, List.getElem?_map, Option.map_some, Nat.reduceBEq, decT, decF, iteT, iteF, wrap_ok, Int.reduceToNat, Int.reduceLE, Int.reduceLT, Int.reduceAdd, Int.reduceSub, Int.reduceNeg, reduceIte, Nat.reduceEqDiff, Nat.reduceAdd, Nat.reduceSub, Nat.reduceMul, Nat.reduceLeDiff, Nat.reduceShiftRight, Nat.reduceMod, reduceCtorEq, f0]
      have : k = 0 := by omega
      subst this
      rw [Nat.gcd_zero_right] at hg
      refine goCall_fc (OCI.fc (k_spec_NatOf p (by omega))) (by repeat (first | exact vws_nil | refine vws_cons ?_ ?_ | exact vw_bb | exact vw_ii | exact vw_ss | exact vw_ints | exact vw_ints0 | exact vw_nn | exact vw_n0 | exact vwl_nil | refine vwl_cons ?_ ?_ | refine vw_agg ?_ | refine vw_fn ?_ | assumption)) ?_
      simp -implicitDefEqProofs (disch := omega) only [↓walk, plain, List.length_map, List.getElem?_map, Option.map_some, Nat.reduceBEq, decT, decF, iteT, iteF, wrap_ok, Int.reduceToNat, Int.reduceLE, Int.reduceLT, Int.reduceAdd, Int.reduceSub, Int.reduceNeg, reduceIte, Nat.reduceEqDiff, Nat.reduceAdd, Nat.reduceSub, Nat.reduceMul, Nat.reduceLeDiff, Nat.reduceShiftRight, Nat.reduceMod, reduceCtorEq]
      rw [← hg]
      exact (fz_ints_sl rfl).data (by simp)
end Go.Am
/-! Walks: the reference's division and greatest common divisor. -/
namespace Go.Am
set_option linter.unusedVariables false
set_option linter.unusedSimpArgs false
set_option maxRecDepth 10000
set_option maxHeartbeats 4000000
theorem e2i (xs : List Int) : (xs.map (AV.i .i64)).all (fun y => y.cells.length == 1 && y.cells.all cellOk) = true := by
  rw [List.all_eq_true]
  intro e he
  obtain ⟨a, _, rfl⟩ := List.mem_map.1 he
  rfl
/-- A number in a slice: an own block's beginning, or data with a tag. -/
def NV (lo n2 : Nat) (v : AV) (H : Heap) (r : Nat) : Prop :=
  (∃ (T : Nat) (es : List Int), lo ≤ T ∧ T < n2 ∧ v = .rf T 0 (limbs r).length ∧ H T = some (1, es.map (.i .i64)) ∧ (limbs r).length ≤ es.length ∧ es.take (limbs r).length = limbs r) ∨ (∃ u, lo ≤ u ∧ u < n2 ∧ v = .sl (some u) ((limbs r).map (.i .i64)))
theorem NV.vw {lo n2 : Nat} {v : AV} {H : Heap} {r : Nat} (h : NV lo n2 v H r) : Vw H (fun _ => True) (fun _ _ => False) True v (ints (limbs r)) := by
  rcases h with ⟨T, es, _, _, rfl, hH, hl, he⟩ | ⟨u, _, _, rfl⟩
  · exact vw_rf_ints hH trivial rfl (by rw [← List.map_take, he])
  · exact vw_ints
theorem NV.fz {lo n2 : Nat} {v : AV} {H : Heap} {r : Nat} (h : NV lo n2 v H r) : ∃ t, lo ≤ t ∧ Fzz H v [t] (fun n => .sl (some n) ((limbs r).map (.i .i64))) := by
  rcases h with ⟨T, es, h1, _, rfl, hH, hl, he⟩ | ⟨u, h1, _, rfl⟩
  · exact ⟨T, h1, fz_ints_rf hH rfl (by rw [← List.map_take, he])⟩
  · exact ⟨u, h1, fz_ints_sl rfl⟩
theorem NV.keep {lo n2 n3 : Nat} {v : AV} {H H' : Heap} {r : Nat} (h : NV lo n2 v H r) (hn : n2 ≤ n3) (hk : ∀ t, lo ≤ t → t < n2 → H' t = H t) : NV lo n3 v H' r := by
  rcases h with ⟨T, es, h1, h2, rfl, hH, hl, he⟩ | ⟨u, h1, h2, rfl⟩
  · exact .inl ⟨T, es, h1, by omega, rfl, by rw [hk T h1 h2]; exact hH, hl, he⟩
  · exact .inr ⟨u, h1, by omega, rfl⟩
theorem trim_nv {lo n2 T k m : Nat} {H : Heap} {xs : List Int} (hd : Dig xs) (hv : val xs = m) (hk : k ≤ xs.length) (ht : TrimAt xs k) (h1 : lo ≤ T) (h2 : T < n2) (hH : H T = some (1, xs.map (.i .i64))) : NV lo n2 (.rf T 0 k) H m := by
  have e := trim_val hd hv hk ht.1 ht.2
  have el : (limbs m).length = k := by rw [← e, List.length_take, Nat.min_eq_left hk]
  exact .inl ⟨T, xs, h1, h2, by rw [el], hH, by omega, by rw [el]; exact e⟩
/-- One digit of a long division. -/
theorem div_step {xs os : List Int} {K : Nat} {n r a : Nat} (hv : val (xs.drop K) = val (os.drop K) * n + r) (ha : xs[K - 1]? = some (a : Int)) (hK : 1 ≤ K) (hK2 : K ≤ os.length) (q r' : Nat) (hq : q * n + r' = a + 1000000000 * r) (ho : os[K - 1]? = some (q : Int)) :
    val (xs.drop (K - 1)) = val (os.drop (K - 1)) * n + r' := by
  rw [val_drop ha, val_drop ho, show K - 1 + 1 = K by omega, hv]
  have : (q : Int) * n + r' = a + 1000000000 * r := by
    have h2 : ((q * n : Nat) : Int) = (q : Int) * n := Int.natCast_mul q n
    rw [← h2]; omega
  grind
def c_spec_l02Div (n_spec_l02Small : Nat) (n_spec_NatOf : Nat) (n_spec_l02Trim : Nat) (n_spec_l02Cmp : Nat) (n_spec_l02Digit : Nat) (n_spec_l02Mul : Nat) (n_spec_l02Sub : Nat) : AF := ⟨65, .seq (.ops [⟨(some 4), .mv (.c .nl), none, []⟩,
   ⟨(some 5), .mv (.c .nl), none, []⟩])
  (.seq (.seq (.ops [⟨(some 12), .mv (.t 1), none, []⟩,
   ⟨(some 13), .len (.t 12), none, []⟩,
   ⟨(some 14), .bin .eql (.t 13) (.c (.i .i64 1)), none, []⟩])
  (.cond (.t 14)
  (.seq (.ops [⟨(some 16), .mv (.t 0), none, []⟩,
    ⟨(some 17), .mv (.t 1), none, []⟩,
    ⟨(some 18), .iad 1 (.t 17) (.c (.i .i64 0)), none, []⟩,
    ⟨(some 19), .ld none (.t 18), none, []⟩,
    ⟨(some 20), .call true n_spec_l02Small [(.t 16), (.t 19)], none, []⟩,
    ⟨(some 15), .mv (.t 20), none, []⟩,
    ⟨(some 21), .ext 0 (.t 15), none, []⟩,
    ⟨(some 22), .ext 1 (.t 15), none, []⟩,
    ⟨(some 6), .mv (.t 21), none, []⟩,
    ⟨(some 7), .mv (.t 22), none, []⟩])
   (.seq (.ops [⟨(some 23), .mv (.t 6), none, []⟩,
    ⟨(some 24), .mv (.t 7), none, []⟩,
    ⟨(some 25), .call true n_spec_NatOf [(.t 24)], none, []⟩,
    ⟨(some 4), .mv (.t 23), none, []⟩,
    ⟨(some 5), .mv (.t 25), none, []⟩])
   (.ret)))
  (.skip)))
  (.seq (.ops [⟨(some 26), .mv (.t 0), none, []⟩,
   ⟨(some 27), .len (.t 26), none, []⟩,
   ⟨(some 28), .mks (.i .i64 0) 8 (.t 27) (.t 27), none, []⟩,
   ⟨(some 8), .mv (.t 28), none, []⟩])
  (.seq (.ops [⟨(some 29), .bsl (.i .i64 0) 0 [], none, []⟩,
   ⟨(some 9), .mv (.t 29), none, []⟩])
  (.seq (.seq (.ops [⟨(some 30), .mv (.t 0), none, []⟩,
   ⟨(some 31), .len (.t 30), none, []⟩,
   ⟨(some 32), .bin .sub (.t 31) (.c (.i .i64 1)), none, []⟩,
   ⟨(some 10), .mv (.t 32), none, []⟩])
  (.block 0 (.loop (.seq (.seq (.ops [⟨(some 33), .mv (.t 10), none, []⟩,
   ⟨(some 34), .bin .geq (.t 33) (.c (.i .i64 0)), none, []⟩])
  (.cond (.t 34)
  (.skip)
  (.exit 0)))
  (.seq (.block 1 (.seq (.ops [⟨(some 37), .mv (.t 0), none, []⟩,
   ⟨(some 38), .mv (.t 10), none, []⟩,
   ⟨(some 39), .iad 1 (.t 37) (.t 38), none, []⟩,
   ⟨(some 40), .ld none (.t 39), none, []⟩,
   ⟨(some 41), .bsl (.i .i64 0) 1 [(0, (.t 40))], none, []⟩,
   ⟨(some 42), .mv (.t 9), none, []⟩,
   ⟨(some 43), .app 1 8 (.t 41) (.t 42), none, []⟩,
   ⟨(some 44), .call true n_spec_l02Trim [(.t 43)], none, []⟩,
   ⟨(some 9), .mv (.t 44), none, []⟩])
  (.seq (.seq (.ops [⟨(some 45), .mv (.t 9), none, []⟩,
   ⟨(some 46), .mv (.t 1), none, []⟩,
   ⟨(some 47), .call true n_spec_l02Cmp [(.t 45), (.t 46)], none, []⟩,
   ⟨(some 48), .bin .lss (.t 47) (.c (.i .i64 0)), none, []⟩])
  (.cond (.t 48)
  (.exit 1)
  (.skip)))
  (.seq (.ops [⟨(some 49), .mv (.t 9), none, []⟩,
   ⟨(some 50), .mv (.t 1), none, []⟩,
   ⟨(some 51), .call true n_spec_l02Digit [(.t 49), (.t 50)], none, []⟩,
   ⟨(some 11), .mv (.t 51), none, []⟩])
  (.seq (.ops [⟨(some 52), .mv (.t 8), none, []⟩,
   ⟨(some 53), .mv (.t 10), none, []⟩,
   ⟨(some 54), .mv (.t 11), none, []⟩,
   ⟨(some 55), .iad 1 (.t 52) (.t 53), none, []⟩,
   ⟨none, .st none (.t 55) (.t 54), none, []⟩])
  (.ops [⟨(some 56), .mv (.t 9), none, []⟩,
   ⟨(some 57), .mv (.t 1), none, []⟩,
   ⟨(some 58), .mv (.t 11), none, []⟩,
   ⟨(some 59), .call true n_spec_NatOf [(.t 58)], none, []⟩,
   ⟨(some 60), .call true n_spec_l02Mul [(.t 57), (.t 59)], none, []⟩,
   ⟨(some 61), .call true n_spec_l02Sub [(.t 56), (.t 60)], none, []⟩,
   ⟨(some 9), .mv (.t 61), none, []⟩]))))))
  (.ops [⟨(some 35), .mv (.t 10), none, []⟩,
   ⟨(some 36), .bin .sub (.t 35) (.c (.i .i64 1)), none, []⟩,
   ⟨(some 10), .mv (.t 36), none, []⟩]))))))
  (.seq (.ops [⟨(some 62), .mv (.t 8), none, []⟩,
   ⟨(some 63), .call true n_spec_l02Trim [(.t 62)], none, []⟩,
   ⟨(some 64), .mv (.t 9), none, []⟩,
   ⟨(some 4), .mv (.t 63), none, []⟩,
   ⟨(some 5), .mv (.t 64), none, []⟩])
  (.ret)))))), [.t 4, .t 5]⟩
def K_spec_l02Div (P : Program) (f : Nat) : Prop := ∀ m n : Nat, 0 < n → (limbs m).length ≤ 190 → (limbs n).length ≤ 190 → FCI2 P f [ints (limbs m), ints (limbs n)] (limbs (m / n)) (limbs (m % n))
theorem t_spec_l02Div {P : Program} {f n_spec_l02Small n_spec_NatOf n_spec_l02Trim n_spec_l02Cmp n_spec_l02Digit n_spec_l02Mul n_spec_l02Sub : Nat} (h : Has P f (c_spec_l02Div n_spec_l02Small n_spec_NatOf n_spec_l02Trim n_spec_l02Cmp n_spec_l02Digit n_spec_l02Mul n_spec_l02Sub)) (k_spec_l02Small : K_spec_l02Small P n_spec_l02Small) (k_spec_NatOf : K_spec_NatOf P n_spec_NatOf) (k_spec_l02Trim : K_spec_l02Trim P n_spec_l02Trim) (k_spec_l02Cmp : K_spec_l02Cmp P n_spec_l02Cmp) (k_spec_l02Digit : K_spec_l02Digit P n_spec_l02Digit) (k_spec_l02Mul : K_spec_l02Mul P n_spec_l02Mul) (k_spec_l02Sub : K_spec_l02Sub P n_spec_l02Sub) : K_spec_l02Div P f := by
  intro m n hn hlm hln
  refine pc_go h (by simp) ?_
  have dm := limbs_dig m
  have dn := limbs_dig n
  simp -implicitDefEqProofs (disch := omega) only [↓walk, plain, List.length_map, List.getElem?_map, Option.map_some, Nat.reduceBEq, iteT, iteF, wrap_ok, Int.reduceToNat, Int.reduceLE, Int.reduceLT, Int.reduceAdd, Int.reduceSub, Int.reduceNeg, reduceIte, Nat.reduceEqDiff, Nat.reduceAdd, Nat.reduceSub, Nat.reduceMul, Nat.reduceLeDiff, Nat.reduceShiftRight, Nat.reduceMod, reduceCtorEq, ints]
  refine goC_dec (fun h1 => ?_) (fun h1 => ?_)
  · have hn1 : n < 1000000000 := by
      have := limbs_len_lt.1 (show (limbs n).length ≤ 1 by omega)
      simp only [pw] at this; omega
    simp -implicitDefEqProofs (disch := omega) only [↓walk, plain, List.length_map, List.getElem?_map, Option.map_some, Nat.reduceBEq, decT, decF, iteT, iteF, wrap_ok, Int.reduceToNat, Int.reduceLE, Int.reduceLT, Int.reduceAdd, Int.reduceSub, Int.reduceNeg, reduceIte, Nat.reduceEqDiff, Nat.reduceAdd, Nat.reduceSub, Nat.reduceMul, Nat.reduceLeDiff, Nat.reduceShiftRight, Nat.reduceMod, reduceCtorEq, limbs_small (n := n) (by omega) hn1, List.map_cons, List.map_nil]
    refine goCall_fc (k_spec_l02Small m n hn hn1 (by omega)) (by repeat (first | exact vws_nil | refine vws_cons ?_ ?_ | exact vw_bb | exact vw_ii | exact vw_ss | exact vw_ints | exact vw_ints0 | exact vw_nn | exact vw_n0 | exact vwl_nil | refine vwl_cons ?_ ?_ | refine vw_agg ?_ | refine vw_fn ?_ | assumption)) ?_
    simp -implicitDefEqProofs (disch := omega) only [↓walk, plain, List.length_map, List.getElem?_map, Option.map_some, Nat.reduceBEq, decT, decF, iteT, iteF, wrap_ok, Int.reduceToNat, Int.reduceLE, Int.reduceLT, Int.reduceAdd, Int.reduceSub, Int.reduceNeg, reduceIte, Nat.reduceEqDiff, Nat.reduceAdd, Nat.reduceSub, Nat.reduceMul, Nat.reduceLeDiff, Nat.reduceShiftRight, Nat.reduceMod, reduceCtorEq]
    have := Nat.mod_lt m hn
    refine goCall_fc (OCI.fc (k_spec_NatOf ((m % n : Nat) : Int) (by omega))) (by repeat (first | exact vws_nil | refine vws_cons ?_ ?_ | exact vw_bb | exact vw_ii | exact vw_ss | exact vw_ints | exact vw_ints0 | exact vw_nn | exact vw_n0 | exact vwl_nil | refine vwl_cons ?_ ?_ | refine vw_agg ?_ | refine vw_fn ?_ | assumption)) ?_
    simp -implicitDefEqProofs (disch := omega) only [↓walk, plain, List.length_map, List.getElem?_map, Option.map_some, Nat.reduceBEq, decT, decF, iteT, iteF, wrap_ok, Int.reduceToNat, Int.reduceLE, Int.reduceLT, Int.reduceAdd, Int.reduceSub, Int.reduceNeg, reduceIte, Nat.reduceEqDiff, Nat.reduceAdd, Nat.reduceSub, Nat.reduceMul, Nat.reduceLeDiff, Nat.reduceShiftRight, Nat.reduceMod, reduceCtorEq]
    exact data_ints2 (fz_ints_sl rfl) (fz_ints_sl rfl) (by omega)
  · simp -implicitDefEqProofs (disch := omega) only [↓walk, plain, List.length_map, List.getElem?_map, Option.map_some, Nat.reduceBEq, decT, decF, iteT, iteF, wrap_ok, Int.reduceToNat, Int.reduceLE, Int.reduceLT, Int.reduceAdd, Int.reduceSub, Int.reduceNeg, reduceIte, Nat.reduceEqDiff, Nat.reduceAdd, Nat.reduceSub, Nat.reduceMul, Nat.reduceLeDiff, Nat.reduceShiftRight, Nat.reduceMod, reduceCtorEq, rep_map, maxB]
    refine go_loopm 4611686009837456896 (by first | rfl | (simp only [mods, modsL, modsD, optB]; rfl)) (fun K fr H n2 => ∃ (os : List Int) (r : Nat), K ≤ (limbs m).length ∧ 10 ≤ n2 ∧ os.length = (limbs m).length ∧ H 7 = some (1, os.map (.i .i64)) ∧ fr 10 = .i .i64 (K - 1) ∧ NV 8 n2 (fr 9) H r ∧ r < n ∧ Dig os ∧ os.take K = List.replicate K 0 ∧ val ((limbs m).drop K) = val (os.drop K) * n + r) (limbs m).length ?_ ?_
    · simp -implicitDefEqProofs (disch := omega) only [↓walk, plain, List.length_map, List.getElem?_map, Option.map_some, Nat.reduceBEq, decT, decF, iteT, iteF, wrap_ok, Int.reduceToNat, Int.reduceLE, Int.reduceLT, Int.reduceAdd, Int.reduceSub, Int.reduceNeg, reduceIte, Nat.reduceEqDiff, Nat.reduceAdd, Nat.reduceSub, Nat.reduceMul, Nat.reduceLeDiff, Nat.reduceShiftRight, Nat.reduceMod, reduceCtorEq]
      refine ⟨List.replicate (limbs m).length 0, 0, ?_⟩
      (repeat' first | refine And.intro ?_ ?_ | rfl | omega | assumption | exact trivial | (dsimp only; omega))
      · simp
      · exact .inl ⟨9, [], by omega, by omega, by rw [limbs_zero]; rfl, by simp -implicitDefEqProofs (disch := omega) only [↓walk, plain, List.length_map, List.getElem?_map, Option.map_some, Nat.reduceBEq, decT, decF, iteT, iteF, wrap_ok, Int.reduceToNat, Int.reduceLE, Int.reduceLT, Int.reduceAdd, Int.reduceSub, Int.reduceNeg, reduceIte, Nat.reduceEqDiff, Nat.reduceAdd, Nat.reduceSub, Nat.reduceMul, Nat.reduceLeDiff, Nat.reduceShiftRight, Nat.reduceMod, reduceCtorEq]; rfl, by simp [limbs_zero], by simp [limbs_zero]⟩
      · exact Dig.replicate _
      · simp
      · rw [List.drop_length, List.drop_of_length_le (by simp)]; simp [val]
    · rintro K fr H n2 ⟨os, r, hK, hn2, hlen, hH, f10, hNV, hr, hd, hz, hv⟩
      refine go_cut 25769803776 (by first | rfl | (simp only [mods, modsL, modsD, optB]; rfl)) (fun fr3 H' n3 => 1 ≤ K ∧ H' = H ∧ n2 ≤ n3) ?_ ?_
      · by_cases h0 : 1 ≤ K
        · simp -implicitDefEqProofs (disch := omega) only [↓walk, plain, List.length_map, List.getElem?_map, Option.map_some, Nat.reduceBEq, decT, decF, iteT, iteF, wrap_ok, Int.reduceToNat, Int.reduceLE, Int.reduceLT, Int.reduceAdd, Int.reduceSub, Int.reduceNeg, reduceIte, Nat.reduceEqDiff, Nat.reduceAdd, Nat.reduceSub, Nat.reduceMul, Nat.reduceLeDiff, Nat.reduceShiftRight, Nat.reduceMod, reduceCtorEq, f10]
          omega
        · have hK0 : K = 0 := by omega
          subst hK0
          simp -implicitDefEqProofs (disch := omega) only [↓walk, plain, List.length_map, List.getElem?_map, Option.map_some, Nat.reduceBEq, decT, decF, iteT, iteF, wrap_ok, Int.reduceToNat, Int.reduceLE, Int.reduceLT, Int.reduceAdd, Int.reduceSub, Int.reduceNeg, reduceIte, Nat.reduceEqDiff, Nat.reduceAdd, Nat.reduceSub, Nat.reduceMul, Nat.reduceLeDiff, Nat.reduceShiftRight, Nat.reduceMod, reduceCtorEq, f10]
          simp only [List.drop_zero] at hv
          rw [← hlen]
          refine goCall_mc0 (k_spec_l02Trim.1 _ _ _ os (by omega) hH) ?_
          rintro v H2 n3 ⟨rfl, hn3, k2, hk2, rfl, ht⟩
          obtain ⟨e1, e2⟩ := small_end (d := n) (m := m) hd (Int.natCast_nonneg r) (by omega) hv hk2 ht
          have e2 : r = m % n := by omega
          subst e2
          simp -implicitDefEqProofs (disch := omega) only [↓walk, plain, List.length_map, List.getElem?_map, Option.map_some, Nat.reduceBEq, decT, decF, iteT, iteF, wrap_ok, Int.reduceToNat, Int.reduceLE, Int.reduceLT, Int.reduceAdd, Int.reduceSub, Int.reduceNeg, reduceIte, Nat.reduceEqDiff, Nat.reduceAdd, Nat.reduceSub, Nat.reduceMul, Nat.reduceLeDiff, Nat.reduceShiftRight, Nat.reduceMod, reduceCtorEq]
          obtain ⟨t, ht1, ht2⟩ := hNV.fz
          exact data_ints2 (fz_ints_rf hH (by rw [← e1, List.length_take, Nat.min_eq_left hk2]) (by rw [← e1, List.map_take])) ht2 (by omega)
      · rintro fr3 H' n3 ⟨hK1, rfl, hn3⟩
        rw [go_seq, go_block]
        obtain ⟨a, ha⟩ := getc (xs := limbs m) (i := K - 1) (by omega)
        have da := dm.at ha
        obtain ⟨a, rfl⟩ := Int.eq_ofNat_of_zero_le da.1
        have e1 : (K : Int) - 1 = ((K - 1 : Nat) : Int) := by omega
        have hNV := hNV.keep (n3 := n3) hn3 (fun _ _ _ => rfl)
        have hr1 : a + 1000000000 * r < 1000000000 * n := by omega
        have hvr : val ((a : Int) :: limbs r) = ((a + 1000000000 * r : Nat) : Int) := by simp only [val, val_limbs]; omega
        have hdr : Dig ((a : Int) :: limbs r) := Dig.cons.2 ⟨da, limbs_dig r⟩
        have hlr : (limbs r).length ≤ 190 := Nat.le_trans (limbs_len_mono (Nat.le_of_lt hr)) hln
        refine go_cut 35046933135872 (by first | rfl | (simp only [mods, modsL, modsD, optB]; rfl)) (fun fr4 H4 n4 => NV 8 n4 (fr4 9) H4 (a + 1000000000 * r) ∧ H4 7 = some (1, os.map (.i .i64)) ∧ n3 ≤ n4) ?_ ?_
        · have fin : ∀ (T L : Nat) (H5 : Heap) (n5 : Nat) (frx : Fr) (lst : List AI) (tok : Nat), True := fun _ _ _ _ _ _ _ => trivial
          clear fin
          by_cases hr0 : r = 0
          · subst hr0
            simp only [limbs_zero] at hvr hdr
            rcases hNV with ⟨T, es, h2, h3, f9, hHT, hl, he⟩ | ⟨u, h2, h3, f9⟩
            · simp only [limbs_zero, List.length_nil, List.take_zero] at f9 hl he
              simp -implicitDefEqProofs (disch := omega) only [↓walk, plain, List.length_map, List.getElem?_map, Option.map_some, Nat.reduceBEq, decT, decF, iteT, iteF, wrap_ok, Int.reduceToNat, Int.reduceLE, Int.reduceLT, Int.reduceAdd, Int.reduceSub, Int.reduceNeg, reduceIte, Nat.reduceEqDiff, Nat.reduceAdd, Nat.reduceSub, Nat.reduceMul, Nat.reduceLeDiff, Nat.reduceShiftRight, Nat.reduceMod, reduceCtorEq, f10, e1, ha, f9, hHT, List.isEmpty_nil, maxB]
              refine goCall_mc0 (k_spec_l02Trim.1 _ _ (n3 + 1 + 1 + 1 + 1) [(a : Int)] (by simp) (by simp -implicitDefEqProofs (disch := omega) only [↓walk, plain, List.length_map, List.getElem?_map, Option.map_some, Nat.reduceBEq, decT, decF, iteT, iteF, wrap_ok, Int.reduceToNat, Int.reduceLE, Int.reduceLT, Int.reduceAdd, Int.reduceSub, Int.reduceNeg, reduceIte, Nat.reduceEqDiff, Nat.reduceAdd, Nat.reduceSub, Nat.reduceMul, Nat.reduceLeDiff, Nat.reduceShiftRight, Nat.reduceMod, reduceCtorEq]; rfl)) ?_
              rintro v H5 n5 ⟨rfl, hn5, k2, hk2, rfl, ht⟩
              simp -implicitDefEqProofs (disch := omega) only [↓walk, plain, List.length_map, List.getElem?_map, Option.map_some, Nat.reduceBEq, decT, decF, iteT, iteF, wrap_ok, Int.reduceToNat, Int.reduceLE, Int.reduceLT, Int.reduceAdd, Int.reduceSub, Int.reduceNeg, reduceIte, Nat.reduceEqDiff, Nat.reduceAdd, Nat.reduceSub, Nat.reduceMul, Nat.reduceLeDiff, Nat.reduceShiftRight, Nat.reduceMod, reduceCtorEq, hH]
              exact ⟨trim_nv hdr hvr hk2 ht (by omega) (by omega) (by simp -implicitDefEqProofs (disch := omega) only [↓walk, plain, List.length_map, List.getElem?_map, Option.map_some, Nat.reduceBEq, decT, decF, iteT, iteF, wrap_ok, Int.reduceToNat, Int.reduceLE, Int.reduceLT, Int.reduceAdd, Int.reduceSub, Int.reduceNeg, reduceIte, Nat.reduceEqDiff, Nat.reduceAdd, Nat.reduceSub, Nat.reduceMul, Nat.reduceLeDiff, Nat.reduceShiftRight, Nat.reduceMod, reduceCtorEq]; rfl), by omega⟩
            · simp only [limbs_zero, List.map_nil] at f9
              simp -implicitDefEqProofs (disch := omega) only [↓walk, plain, List.length_map, List.getElem?_map, Option.map_some, Nat.reduceBEq, decT, decF, iteT, iteF, wrap_ok, Int.reduceToNat, Int.reduceLE, Int.reduceLT, Int.reduceAdd, Int.reduceSub, Int.reduceNeg, reduceIte, Nat.reduceEqDiff, Nat.reduceAdd, Nat.reduceSub, Nat.reduceMul, Nat.reduceLeDiff, Nat.reduceShiftRight, Nat.reduceMod, reduceCtorEq, f10, e1, ha, f9, List.isEmpty_nil, maxB]
              refine goCall_mc0 (k_spec_l02Trim.1 _ _ (n3 + 1 + 1 + 1 + 1) [(a : Int)] (by simp) (by simp -implicitDefEqProofs (disch := omega) only [↓walk, plain, List.length_map, List.getElem?_map, Option.map_some, Nat.reduceBEq, decT, decF, iteT, iteF, wrap_ok, Int.reduceToNat, Int.reduceLE, Int.reduceLT, Int.reduceAdd, Int.reduceSub, Int.reduceNeg, reduceIte, Nat.reduceEqDiff, Nat.reduceAdd, Nat.reduceSub, Nat.reduceMul, Nat.reduceLeDiff, Nat.reduceShiftRight, Nat.reduceMod, reduceCtorEq]; rfl)) ?_
              rintro v H5 n5 ⟨rfl, hn5, k2, hk2, rfl, ht⟩
              simp -implicitDefEqProofs (disch := omega) only [↓walk, plain, List.length_map, List.getElem?_map, Option.map_some, Nat.reduceBEq, decT, decF, iteT, iteF, wrap_ok, Int.reduceToNat, Int.reduceLE, Int.reduceLT, Int.reduceAdd, Int.reduceSub, Int.reduceNeg, reduceIte, Nat.reduceEqDiff, Nat.reduceAdd, Nat.reduceSub, Nat.reduceMul, Nat.reduceLeDiff, Nat.reduceShiftRight, Nat.reduceMod, reduceCtorEq, hH]
              exact ⟨trim_nv hdr hvr hk2 ht (by omega) (by omega) (by simp -implicitDefEqProofs (disch := omega) only [↓walk, plain, List.length_map, List.getElem?_map, Option.map_some, Nat.reduceBEq, decT, decF, iteT, iteF, wrap_ok, Int.reduceToNat, Int.reduceLE, Int.reduceLT, Int.reduceAdd, Int.reduceSub, Int.reduceNeg, reduceIte, Nat.reduceEqDiff, Nat.reduceAdd, Nat.reduceSub, Nat.reduceMul, Nat.reduceLeDiff, Nat.reduceShiftRight, Nat.reduceMod, reduceCtorEq]; rfl), by omega⟩
          · have e4 : ((limbs r).map (AV.i .i64)).isEmpty = false := by simp [limbs_nil, hr0]
            have e5 : 1 + (limbs r).length = ((a : Int) :: limbs r).length := by simp; omega
            rcases hNV with ⟨T, es, h2, h3, f9, hHT, hl, he⟩ | ⟨u, h2, h3, f9⟩
            · have he2 : (es.map (AV.i .i64)).take (limbs r).length = (limbs r).map (.i .i64) := by rw [← List.map_take, he]
              simp -implicitDefEqProofs (disch := omega) only [↓walk, plain, List.length_map, List.getElem?_map, Option.map_some, Nat.reduceBEq, decT, decF, iteT, iteF, wrap_ok, Int.reduceToNat, Int.reduceLE, Int.reduceLT, Int.reduceAdd, Int.reduceSub, Int.reduceNeg, reduceIte, Nat.reduceEqDiff, Nat.reduceAdd, Nat.reduceSub, Nat.reduceMul, Nat.reduceLeDiff, Nat.reduceShiftRight, Nat.reduceMod, reduceCtorEq, f10, e1, ha, f9, hHT, he2, e2i, e4, maxB]
              rw [e5]
              refine goCall_mc0 (k_spec_l02Trim.1 _ _ (n3 + 1 + 1 + 1 + 1 + 1 + 1) ((a : Int) :: limbs r) (by simp; omega) (by simp -implicitDefEqProofs (disch := omega) only [↓walk, plain, List.length_map, List.getElem?_map, Option.map_some, Nat.reduceBEq, decT, decF, iteT, iteF, wrap_ok, Int.reduceToNat, Int.reduceLE, Int.reduceLT, Int.reduceAdd, Int.reduceSub, Int.reduceNeg, reduceIte, Nat.reduceEqDiff, Nat.reduceAdd, Nat.reduceSub, Nat.reduceMul, Nat.reduceLeDiff, Nat.reduceShiftRight, Nat.reduceMod, reduceCtorEq]; rfl)) ?_
              rintro v H5 n5 ⟨rfl, hn5, k2, hk2, rfl, ht⟩
              simp -implicitDefEqProofs (disch := omega) only [↓walk, plain, List.length_map, List.getElem?_map, Option.map_some, Nat.reduceBEq, decT, decF, iteT, iteF, wrap_ok, Int.reduceToNat, Int.reduceLE, Int.reduceLT, Int.reduceAdd, Int.reduceSub, Int.reduceNeg, reduceIte, Nat.reduceEqDiff, Nat.reduceAdd, Nat.reduceSub, Nat.reduceMul, Nat.reduceLeDiff, Nat.reduceShiftRight, Nat.reduceMod, reduceCtorEq, hH]
              exact ⟨trim_nv hdr hvr hk2 ht (by omega) (by omega) (by simp -implicitDefEqProofs (disch := omega) only [↓walk, plain, List.length_map, List.getElem?_map, Option.map_some, Nat.reduceBEq, decT, decF, iteT, iteF, wrap_ok, Int.reduceToNat, Int.reduceLE, Int.reduceLT, Int.reduceAdd, Int.reduceSub, Int.reduceNeg, reduceIte, Nat.reduceEqDiff, Nat.reduceAdd, Nat.reduceSub, Nat.reduceMul, Nat.reduceLeDiff, Nat.reduceShiftRight, Nat.reduceMod, reduceCtorEq]; rfl), by omega⟩
            · simp -implicitDefEqProofs (disch := omega) only [↓walk, plain, List.length_map, List.getElem?_map, Option.map_some, Nat.reduceBEq, decT, decF, iteT, iteF, wrap_ok, Int.reduceToNat, Int.reduceLE, Int.reduceLT, Int.reduceAdd, Int.reduceSub, Int.reduceNeg, reduceIte, Nat.reduceEqDiff, Nat.reduceAdd, Nat.reduceSub, Nat.reduceMul, Nat.reduceLeDiff, Nat.reduceShiftRight, Nat.reduceMod, reduceCtorEq, f10, e1, ha, f9, e2i, e4, maxB]
              rw [e5]
              refine goCall_mc0 (k_spec_l02Trim.1 _ _ (n3 + 1 + 1 + 1 + 1 + 1 + 1) ((a : Int) :: limbs r) (by simp; omega) (by simp -implicitDefEqProofs (disch := omega) only [↓walk, plain, List.length_map, List.getElem?_map, Option.map_some, Nat.reduceBEq, decT, decF, iteT, iteF, wrap_ok, Int.reduceToNat, Int.reduceLE, Int.reduceLT, Int.reduceAdd, Int.reduceSub, Int.reduceNeg, reduceIte, Nat.reduceEqDiff, Nat.reduceAdd, Nat.reduceSub, Nat.reduceMul, Nat.reduceLeDiff, Nat.reduceShiftRight, Nat.reduceMod, reduceCtorEq]; rfl)) ?_
              rintro v H5 n5 ⟨rfl, hn5, k2, hk2, rfl, ht⟩
              simp -implicitDefEqProofs (disch := omega) only [↓walk, plain, List.length_map, List.getElem?_map, Option.map_some, Nat.reduceBEq, decT, decF, iteT, iteF, wrap_ok, Int.reduceToNat, Int.reduceLE, Int.reduceLT, Int.reduceAdd, Int.reduceSub, Int.reduceNeg, reduceIte, Nat.reduceEqDiff, Nat.reduceAdd, Nat.reduceSub, Nat.reduceMul, Nat.reduceLeDiff, Nat.reduceShiftRight, Nat.reduceMod, reduceCtorEq, hH]
              exact ⟨trim_nv hdr hvr hk2 ht (by omega) (by omega) (by simp -implicitDefEqProofs (disch := omega) only [↓walk, plain, List.length_map, List.getElem?_map, Option.map_some, Nat.reduceBEq, decT, decF, iteT, iteF, wrap_ok, Int.reduceToNat, Int.reduceLE, Int.reduceLT, Int.reduceAdd, Int.reduceSub, Int.reduceNeg, reduceIte, Nat.reduceEqDiff, Nat.reduceAdd, Nat.reduceSub, Nat.reduceMul, Nat.reduceLeDiff, Nat.reduceShiftRight, Nat.reduceMod, reduceCtorEq]; rfl), by omega⟩
        · rintro fr4 H4 n4 ⟨hNV4, hH4, hn4⟩
          have hlr1 : (limbs (a + 1000000000 * r)).length ≤ 191 := by
            rw [limbs_len_lt] at *
            rw [pw_succ]; omega
          have hz1 : os[K - 1]? = some 0 := by
            have := congrArg (fun l => l[K - 1]?) hz
            simp only [List.getElem?_take, List.getElem?_replicate] at this
            rw [if_pos (by omega), if_pos (by omega)] at this
            exact this
          have hzt : os.take (K - 1) = List.replicate (K - 1) 0 := by
            have := congrArg (List.take (K - 1)) hz
            rw [List.take_take, List.take_replicate] at this
            rw [show min (K - 1) K = K - 1 by omega] at this
            exact this
          simp -implicitDefEqProofs (disch := omega) only [↓walk, plain, List.length_map, List.getElem?_map, Option.map_some, Nat.reduceBEq, decT, decF, iteT, iteF, wrap_ok, Int.reduceToNat, Int.reduceLE, Int.reduceLT, Int.reduceAdd, Int.reduceSub, Int.reduceNeg, reduceIte, Nat.reduceEqDiff, Nat.reduceAdd, Nat.reduceSub, Nat.reduceMul, Nat.reduceLeDiff, Nat.reduceShiftRight, Nat.reduceMod, reduceCtorEq]
          refine goCall_sc (k_spec_l02Cmp (a + 1000000000 * r) n (by omega) (by omega)) (vws_cons hNV4.vw (vws_cons vw_ints vws_nil)) ?_
          simp -implicitDefEqProofs (disch := omega) only [↓walk, plain, List.length_map, List.getElem?_map, Option.map_some, Nat.reduceBEq, iteT, iteF, wrap_ok, Int.reduceToNat, Int.reduceLE, Int.reduceLT, Int.reduceAdd, Int.reduceSub, Int.reduceNeg, reduceIte, Nat.reduceEqDiff, Nat.reduceAdd, Nat.reduceSub, Nat.reduceMul, Nat.reduceLeDiff, Nat.reduceShiftRight, Nat.reduceMod, reduceCtorEq]
          refine goC_dec (fun h2 => ?_) (fun h2 => ?_)
          · have h2 := cmpN_lt0.1 h2
            simp -implicitDefEqProofs (disch := omega) only [↓walk, plain, List.length_map, List.getElem?_map, Option.map_some, Nat.reduceBEq, decT, decF, iteT, iteF, wrap_ok, Int.reduceToNat, Int.reduceLE, Int.reduceLT, Int.reduceAdd, Int.reduceSub, Int.reduceNeg, reduceIte, Nat.reduceEqDiff, Nat.reduceAdd, Nat.reduceSub, Nat.reduceMul, Nat.reduceLeDiff, Nat.reduceShiftRight, Nat.reduceMod, reduceCtorEq, f10]
            refine ⟨K - 1, by omega, os, a + 1000000000 * r, ?_⟩
            (repeat' first | refine And.intro ?_ ?_ | rfl | omega | assumption | exact trivial | (dsimp only; omega))
            · congr 1; omega
            · exact hNV4.keep (by omega) (fun _ _ _ => rfl)
            · exact div_step hv ha hK1 (by omega) 0 _ (by omega) hz1
          · have h2 : ¬ _ := fun h3 => h2 (cmpN_lt0.2 h3)
            simp -implicitDefEqProofs (disch := omega) only [↓walk, plain, List.length_map, List.getElem?_map, Option.map_some, Nat.reduceBEq, decT, decF, iteT, iteF, wrap_ok, Int.reduceToNat, Int.reduceLE, Int.reduceLT, Int.reduceAdd, Int.reduceSub, Int.reduceNeg, reduceIte, Nat.reduceEqDiff, Nat.reduceAdd, Nat.reduceSub, Nat.reduceMul, Nat.reduceLeDiff, Nat.reduceShiftRight, Nat.reduceMod, reduceCtorEq]
            refine goCall_sc (k_spec_l02Digit (a + 1000000000 * r) n hn hr1 (by omega) (by omega)) (vws_cons hNV4.vw (vws_cons vw_ints vws_nil)) ?_
            obtain ⟨q, hq⟩ : ∃ q, q = (a + 1000000000 * r) / n := ⟨_, rfl⟩
            have hqr := Nat.div_add_mod (a + 1000000000 * r) n
            have hql : q < 1000000000 := by rw [hq, Nat.div_lt_iff_lt_mul hn]; exact hr1
            have hmod := Nat.mod_lt (a + 1000000000 * r) hn
            rw [← hq] at hqr ⊢
            have hqs : (limbs q).length ≤ 1 := by rw [limbs_len_lt]; simp only [pw]; omega
            have hset : (os.map (AV.i .i64)).set (K - 1) (.i .i64 (q : Int)) = (os.set (K - 1) (q : Int)).map (.i .i64) := by rw [List.map_set]
            simp -implicitDefEqProofs (disch := omega) only [↓walk, plain, List.length_map, List.getElem?_map, Option.map_some, Nat.reduceBEq, decT, decF, iteT, iteF, wrap_ok, Int.reduceToNat, Int.reduceLE, Int.reduceLT, Int.reduceAdd, Int.reduceSub, Int.reduceNeg, reduceIte, Nat.reduceEqDiff, Nat.reduceAdd, Nat.reduceSub, Nat.reduceMul, Nat.reduceLeDiff, Nat.reduceShiftRight, Nat.reduceMod, reduceCtorEq, f10, e1, hH4, hz1, hset]
            refine goCall_fc (OCI.fc (k_spec_NatOf ((q : Nat) : Int) (by omega))) (by repeat (first | exact vws_nil | refine vws_cons ?_ ?_ | exact vw_bb | exact vw_ii | exact vw_ss | exact vw_ints | exact vw_ints0 | exact vw_nn | exact vw_n0 | exact vwl_nil | refine vwl_cons ?_ ?_ | refine vw_agg ?_ | refine vw_fn ?_ | assumption)) ?_
            simp -implicitDefEqProofs (disch := omega) only [↓walk, plain, List.length_map, List.getElem?_map, Option.map_some, Nat.reduceBEq, decT, decF, iteT, iteF, wrap_ok, Int.reduceToNat, Int.reduceLE, Int.reduceLT, Int.reduceAdd, Int.reduceSub, Int.reduceNeg, reduceIte, Nat.reduceEqDiff, Nat.reduceAdd, Nat.reduceSub, Nat.reduceMul, Nat.reduceLeDiff, Nat.reduceShiftRight, Nat.reduceMod, reduceCtorEq]
            refine goCall_fc (OCI.fc (k_spec_l02Mul n q (by omega) (by omega))) (by repeat (first | exact vws_nil | refine vws_cons ?_ ?_ | exact vw_bb | exact vw_ii | exact vw_ss | exact vw_ints | exact vw_ints0 | exact vw_nn | exact vw_n0 | exact vwl_nil | refine vwl_cons ?_ ?_ | refine vw_agg ?_ | refine vw_fn ?_ | assumption)) ?_
            simp -implicitDefEqProofs (disch := omega) only [↓walk, plain, List.length_map, List.getElem?_map, Option.map_some, Nat.reduceBEq, decT, decF, iteT, iteF, wrap_ok, Int.reduceToNat, Int.reduceLE, Int.reduceLT, Int.reduceAdd, Int.reduceSub, Int.reduceNeg, reduceIte, Nat.reduceEqDiff, Nat.reduceAdd, Nat.reduceSub, Nat.reduceMul, Nat.reduceLeDiff, Nat.reduceShiftRight, Nat.reduceMod, reduceCtorEq]
            have hml := limbs_mul_len hln hqs
            have hNV5 := hNV4.keep (H' := H4.upd 7 (1, (os.set (K - 1) (q : Int)).map (.i .i64))) (Nat.le_refl _) (fun t h3 h4 => by rw [Heap.upd_ne]; omega)
            refine goCall_fc (OCI.fc (k_spec_l02Sub (a + 1000000000 * r) (n * q) (by omega) (by omega) (by omega))) (vws_cons hNV5.vw (vws_cons vw_ints vws_nil)) ?_
            simp -implicitDefEqProofs (disch := omega) only [↓walk, plain, List.length_map, List.getElem?_map, Option.map_some, Nat.reduceBEq, decT, decF, iteT, iteF, wrap_ok, Int.reduceToNat, Int.reduceLE, Int.reduceLT, Int.reduceAdd, Int.reduceSub, Int.reduceNeg, reduceIte, Nat.reduceEqDiff, Nat.reduceAdd, Nat.reduceSub, Nat.reduceMul, Nat.reduceLeDiff, Nat.reduceShiftRight, Nat.reduceMod, reduceCtorEq, f10]
            refine ⟨K - 1, by omega, os.set (K - 1) (q : Int), a + 1000000000 * r - n * q, ?_⟩
            have hos : (os.set (K - 1) (q : Int))[K - 1]? = some (q : Int) := List.getElem?_set_self (by omega)
            (repeat' first | refine And.intro ?_ ?_ | rfl | omega | assumption | exact trivial | (dsimp only; omega))
            · simpa using hlen
            · congr 1; omega
            · exact .inr ⟨_, by omega, by omega, rfl⟩
            · exact hd.set (by omega) (by omega)
            · rw [List.take_set_of_le (by omega)]; exact hzt
            · refine div_step (K := K) (r := r) ?_ ha hK1 (by simpa using (show K ≤ os.length by omega)) q _ ?_ hos
              · rw [hv]
                have : (os.set (K - 1) (q : Int)).drop K = os.drop K := by
                  have := drop_set (xs := os) (i := K - 1) (a := (q : Int))
                  rwa [show K - 1 + 1 = K by omega] at this
                rw [this]
              · rw [Nat.mul_comm q n]; omega
end Go.Am
/-! Walks: the reference's greatest common divisor. -/
namespace Go.Am
set_option linter.unusedVariables false
set_option linter.unusedSimpArgs false
set_option maxRecDepth 10000
set_option maxHeartbeats 4000000
theorem NV.val {lo n2 : Nat} {v : AV} {H : Heap} {r : Nat} (h : NV lo n2 v H r) : (∃ T, v = .rf T 0 (limbs r).length) ∨ (∃ u, v = .sl (some u) ((limbs r).map (.i .i64))) := by
  rcases h with ⟨T, es, _, _, h, _⟩ | ⟨u, _, _, h⟩
  · exact .inl ⟨T, h⟩
  · exact .inr ⟨u, h⟩
theorem NV.own {lo n2 T : Nat} {H : Heap} {r : Nat} (h1 : lo ≤ T) (h2 : T < n2) (hH : H T = some (1, (limbs r).map (.i .i64))) : NV lo n2 (.rf T 0 (limbs r).length) H r :=
  .inl ⟨T, limbs r, h1, h2, rfl, hH, Nat.le_refl _, by rw [List.take_length]⟩
theorem NV.own0 {lo n2 T : Nat} {H : Heap} (h1 : lo ≤ T) (h2 : T < n2) (hH : H T = some (1, [])) : NV lo n2 (.rf T 0 0) H 0 :=
  .inl ⟨T, [], h1, h2, by rw [limbs_zero]; rfl, hH, by simp [limbs_zero], by simp [limbs_zero]⟩
def c_spec_l02Gcd (n_spec_NatToInt : Nat) (n_spec_l02Plain : Nat) (n_spec_l02Div : Nat) : AF := ⟨52, .seq (.ops [⟨(some 4), .mv (.c .nl), none, []⟩])
  (.seq (.ops [⟨(some 13), .bsl (.i .i64 0) 0 [], none, []⟩,
   ⟨(some 14), .mv (.t 0), none, []⟩,
   ⟨(some 15), .app 1 8 (.t 13) (.t 14), none, []⟩,
   ⟨(some 5), .mv (.t 15), none, []⟩])
  (.seq (.ops [⟨(some 16), .bsl (.i .i64 0) 0 [], none, []⟩,
   ⟨(some 17), .mv (.t 1), none, []⟩,
   ⟨(some 18), .app 1 8 (.t 16) (.t 17), none, []⟩,
   ⟨(some 6), .mv (.t 18), none, []⟩])
  (.seq (.block 0 (.loop (.seq (.seq (.ops [⟨(some 19), .mv (.t 6), none, []⟩,
   ⟨(some 20), .len (.t 19), none, []⟩,
   ⟨(some 21), .bin .gtr (.t 20) (.c (.i .i64 0)), none, []⟩])
  (.cond (.t 21)
  (.skip)
  (.exit 0)))
  (.block 1 (.seq (.seq (.ops [⟨(some 22), .mv (.t 5), none, []⟩,
   ⟨(some 23), .len (.t 22), none, []⟩,
   ⟨(some 24), .bin .lss (.t 23) (.c (.i .i64 3)), none, []⟩,
   ⟨(some 25), .mv (.t 24), none, []⟩,
   ⟨(some 26), .mv (.t 6), some (25, true), []⟩,
   ⟨(some 27), .len (.t 26), some (25, true), []⟩,
   ⟨(some 28), .bin .lss (.t 27) (.c (.i .i64 3)), some (25, true), []⟩,
   ⟨(some 29), .pick (.t 25) (.t 28) (.c (.b false)), none, []⟩])
  (.cond (.t 29)
  (.seq (.ops [⟨(some 31), .mv (.t 5), none, []⟩,
    ⟨(some 32), .call true n_spec_NatToInt [(.t 31)], none, []⟩,
    ⟨(some 30), .mv (.t 32), none, []⟩,
    ⟨(some 33), .ext 0 (.t 30), none, []⟩,
    ⟨(some 34), .ext 1 (.t 30), none, []⟩,
    ⟨(some 7), .mv (.t 33), none, []⟩,
    ⟨(some 8), .mv (.t 34), none, []⟩])
   (.seq (.ops [⟨(some 36), .mv (.t 6), none, []⟩,
    ⟨(some 37), .call true n_spec_NatToInt [(.t 36)], none, []⟩,
    ⟨(some 35), .mv (.t 37), none, []⟩,
    ⟨(some 38), .ext 0 (.t 35), none, []⟩,
    ⟨(some 39), .ext 1 (.t 35), none, []⟩,
    ⟨(some 9), .mv (.t 38), none, []⟩,
    ⟨(some 10), .mv (.t 39), none, []⟩])
   (.seq (.ops [⟨(some 40), .mv (.t 7), none, []⟩,
    ⟨(some 41), .mv (.t 9), none, []⟩,
    ⟨(some 42), .call true n_spec_l02Plain [(.t 40), (.t 41)], none, []⟩,
    ⟨(some 4), .mv (.t 42), none, []⟩])
   (.ret))))
  (.skip)))
  (.seq (.ops [⟨(some 44), .mv (.t 5), none, []⟩,
   ⟨(some 45), .mv (.t 6), none, []⟩,
   ⟨(some 46), .call true n_spec_l02Div [(.t 44), (.t 45)], none, []⟩,
   ⟨(some 43), .mv (.t 46), none, []⟩,
   ⟨(some 47), .ext 0 (.t 43), none, []⟩,
   ⟨(some 48), .ext 1 (.t 43), none, []⟩,
   ⟨(some 11), .mv (.t 47), none, []⟩,
   ⟨(some 12), .mv (.t 48), none, []⟩])
  (.seq (.ops [⟨(some 49), .mv (.t 6), none, []⟩,
   ⟨(some 5), .mv (.t 49), none, []⟩])
  (.ops [⟨(some 50), .mv (.t 12), none, []⟩,
   ⟨(some 6), .mv (.t 50), none, []⟩]))))))))
  (.seq (.ops [⟨(some 51), .mv (.t 5), none, []⟩,
   ⟨(some 4), .mv (.t 51), none, []⟩])
  (.ret))))), [.t 4]⟩
def K_spec_l02Gcd (P : Program) (f : Nat) : Prop := ∀ m n : Nat, (limbs m).length ≤ 180 → (limbs n).length ≤ 180 → FCI P f [ints (limbs m), ints (limbs n)] (limbs (Nat.gcd m n))
theorem t_spec_l02Gcd {P : Program} {f n_spec_NatToInt n_spec_l02Plain n_spec_l02Div : Nat} (h : Has P f (c_spec_l02Gcd n_spec_NatToInt n_spec_l02Plain n_spec_l02Div)) (k_spec_NatToInt : K_spec_NatToInt P n_spec_NatToInt) (k_spec_l02Plain : K_spec_l02Plain P n_spec_l02Plain) (k_spec_l02Div : K_spec_l02Div P n_spec_l02Div) : K_spec_l02Gcd P f := by
  intro m n hm hn
  refine pc_go h (by simp) ?_
  have fin : ∀ (fr : Fr) (H : Heap) (n2 : Nat), NV 0 n2 (fr 5) H m → NV 0 n2 (fr 6) H n → True := fun _ _ _ _ _ => trivial
  clear fin
  refine go_cut 16 (by first | rfl | (simp only [mods, modsL, modsD, optB]; rfl)) (fun fr H n' => H = noHeap ∧ n' = 1) ?_ ?_
  · simp -implicitDefEqProofs (disch := omega) only [↓walk, plain, List.length_map, List.getElem?_map, Option.map_some, Nat.reduceBEq, decT, decF, iteT, iteF, wrap_ok, Int.reduceToNat, Int.reduceLE, Int.reduceLT, Int.reduceAdd, Int.reduceSub, Int.reduceNeg, reduceIte, Nat.reduceEqDiff, Nat.reduceAdd, Nat.reduceSub, Nat.reduceMul, Nat.reduceLeDiff, Nat.reduceShiftRight, Nat.reduceMod, reduceCtorEq]
  rintro fr H n' ⟨rfl, rfl⟩
  refine go_cut 57376 (by first | rfl | (simp only [mods, modsL, modsD, optB]; rfl)) (fun fr H n' => NV 0 n' (fr 5) H m) ?_ ?_
  · by_cases h0 : (limbs m).isEmpty = true
    · have : m = 0 := limbs_nil.1 (List.isEmpty_iff.1 h0)
      subst this
      simp -implicitDefEqProofs (disch := omega) only [↓walk, plain, List.length_map, List.getElem?_map, Option.map_some, Nat.reduceBEq, decT, decF, iteT, iteF, wrap_ok, Int.reduceToNat, Int.reduceLE, Int.reduceLT, Int.reduceAdd, Int.reduceSub, Int.reduceNeg, reduceIte, Nat.reduceEqDiff, Nat.reduceAdd, Nat.reduceSub, Nat.reduceMul, Nat.reduceLeDiff, Nat.reduceShiftRight, Nat.reduceMod, reduceCtorEq, ints, limbs_zero, List.map_nil, List.isEmpty_nil, maxB]
      exact NV.own0 (by omega) (by omega) (by simp -implicitDefEqProofs (disch := omega) only [↓walk, plain, List.length_map, List.getElem?_map, Option.map_some, Nat.reduceBEq, decT, decF, iteT, iteF, wrap_ok, Int.reduceToNat, Int.reduceLE, Int.reduceLT, Int.reduceAdd, Int.reduceSub, Int.reduceNeg, reduceIte, Nat.reduceEqDiff, Nat.reduceAdd, Nat.reduceSub, Nat.reduceMul, Nat.reduceLeDiff, Nat.reduceShiftRight, Nat.reduceMod, reduceCtorEq])
    · have e4 : ((limbs m).map (AV.i .i64)).isEmpty = false := by simpa using h0
      simp -implicitDefEqProofs (disch := omega) only [↓walk, plain, List.length_map, List.getElem?_map, Option.map_some, Nat.reduceBEq, decT, decF, iteT, iteF, wrap_ok, Int.reduceToNat, Int.reduceLE, Int.reduceLT, Int.reduceAdd, Int.reduceSub, Int.reduceNeg, reduceIte, Nat.reduceEqDiff, Nat.reduceAdd, Nat.reduceSub, Nat.reduceMul, Nat.reduceLeDiff, Nat.reduceShiftRight, Nat.reduceMod, reduceCtorEq, ints, e4, e2i, maxB]
      exact NV.own (by omega) (by omega) (by simp -implicitDefEqProofs (disch := omega) only [↓walk, plain, List.length_map, List.getElem?_map, Option.map_some, Nat.reduceBEq, decT, decF, iteT, iteF, wrap_ok, Int.reduceToNat, Int.reduceLE, Int.reduceLT, Int.reduceAdd, Int.reduceSub, Int.reduceNeg, reduceIte, Nat.reduceEqDiff, Nat.reduceAdd, Nat.reduceSub, Nat.reduceMul, Nat.reduceLeDiff, Nat.reduceShiftRight, Nat.reduceMod, reduceCtorEq])
  rintro fr2 H2 n2 hX
  refine go_cut 458816 (by first | rfl | (simp only [mods, modsL, modsD, optB]; rfl)) (fun fr H n' => NV 0 n' (fr2 5) H m ∧ NV 0 n' (fr 6) H n) ?_ ?_
  · by_cases h0 : (limbs n).isEmpty = true
    · have : n = 0 := limbs_nil.1 (List.isEmpty_iff.1 h0)
      subst this
      simp -implicitDefEqProofs (disch := omega) only [↓walk, plain, List.length_map, List.getElem?_map, Option.map_some, Nat.reduceBEq, decT, decF, iteT, iteF, wrap_ok, Int.reduceToNat, Int.reduceLE, Int.reduceLT, Int.reduceAdd, Int.reduceSub, Int.reduceNeg, reduceIte, Nat.reduceEqDiff, Nat.reduceAdd, Nat.reduceSub, Nat.reduceMul, Nat.reduceLeDiff, Nat.reduceShiftRight, Nat.reduceMod, reduceCtorEq, ints, limbs_zero, List.map_nil, List.isEmpty_nil, maxB]
      exact ⟨hX.keep (by omega) (fun t _ ht => by simp -implicitDefEqProofs (disch := omega) only [↓walk, plain, List.length_map, List.getElem?_map, Option.map_some, Nat.reduceBEq, decT, decF, iteT, iteF, wrap_ok, Int.reduceToNat, Int.reduceLE, Int.reduceLT, Int.reduceAdd, Int.reduceSub, Int.reduceNeg, reduceIte, Nat.reduceEqDiff, Nat.reduceAdd, Nat.reduceSub, Nat.reduceMul, Nat.reduceLeDiff, Nat.reduceShiftRight, Nat.reduceMod, reduceCtorEq]), NV.own0 (by omega) (by omega) (by simp -implicitDefEqProofs (disch := omega) only [↓walk, plain, List.length_map, List.getElem?_map, Option.map_some, Nat.reduceBEq, decT, decF, iteT, iteF, wrap_ok, Int.reduceToNat, Int.reduceLE, Int.reduceLT, Int.reduceAdd, Int.reduceSub, Int.reduceNeg, reduceIte, Nat.reduceEqDiff, Nat.reduceAdd, Nat.reduceSub, Nat.reduceMul, Nat.reduceLeDiff, Nat.reduceShiftRight, Nat.reduceMod, reduceCtorEq])⟩
    · have e4 : ((limbs n).map (AV.i .i64)).isEmpty = false := by simpa using h0
      simp -implicitDefEqProofs (disch := omega) only [↓walk, plain, List.length_map, List.getElem?_map, Option.map_some, Nat.reduceBEq, decT, decF, iteT, iteF, wrap_ok, Int.reduceToNat, Int.reduceLE, Int.reduceLT, Int.reduceAdd, Int.reduceSub, Int.reduceNeg, reduceIte, Nat.reduceEqDiff, Nat.reduceAdd, Nat.reduceSub, Nat.reduceMul, Nat.reduceLeDiff, Nat.reduceShiftRight, Nat.reduceMod, reduceCtorEq, ints, e4, e2i, maxB]
      exact ⟨hX.keep (by omega) (fun t _ ht => by simp -implicitDefEqProofs (disch := omega) only [↓walk, plain, List.length_map, List.getElem?_map, Option.map_some, Nat.reduceBEq, decT, decF, iteT, iteF, wrap_ok, Int.reduceToNat, Int.reduceLE, Int.reduceLT, Int.reduceAdd, Int.reduceSub, Int.reduceNeg, reduceIte, Nat.reduceEqDiff, Nat.reduceAdd, Nat.reduceSub, Nat.reduceMul, Nat.reduceLeDiff, Nat.reduceShiftRight, Nat.reduceMod, reduceCtorEq]), NV.own (by omega) (by omega) (by simp -implicitDefEqProofs (disch := omega) only [↓walk, plain, List.length_map, List.getElem?_map, Option.map_some, Nat.reduceBEq, decT, decF, iteT, iteF, wrap_ok, Int.reduceToNat, Int.reduceLE, Int.reduceLT, Int.reduceAdd, Int.reduceSub, Int.reduceNeg, reduceIte, Nat.reduceEqDiff, Nat.reduceAdd, Nat.reduceSub, Nat.reduceMul, Nat.reduceLeDiff, Nat.reduceShiftRight, Nat.reduceMod, reduceCtorEq])⟩
  rintro fr3 H3 n3 ⟨hX, hY⟩
  simp -implicitDefEqProofs (disch := omega) only [↓walk, plain, List.length_map, List.getElem?_map, Option.map_some, Nat.reduceBEq, iteT, iteF, wrap_ok, Int.reduceToNat, Int.reduceLE, Int.reduceLT, Int.reduceAdd, Int.reduceSub, Int.reduceNeg, reduceIte, Nat.reduceEqDiff, Nat.reduceAdd, Nat.reduceSub, Nat.reduceMul, Nat.reduceLeDiff, Nat.reduceShiftRight, Nat.reduceMod, reduceCtorEq]
  refine go_loopm 2251799813169136 (by first | rfl | (simp only [mods, modsL, modsD, optB]; rfl)) (fun k fr H n' => ∃ p q : Nat, NV 0 n' (fr 5) H p ∧ NV 0 n' (fr 6) H q ∧ Nat.gcd p q = Nat.gcd m n ∧ (limbs p).length ≤ 180 ∧ (limbs q).length ≤ 180 ∧ q = k ∧ 0 ≤ n') n ?_ ?_
  · simp -implicitDefEqProofs (disch := omega) only [↓walk, plain, List.length_map, List.getElem?_map, Option.map_some, Nat.reduceBEq, decT, decF, iteT, iteF, wrap_ok, Int.reduceToNat, Int.reduceLE, Int.reduceLT, Int.reduceAdd, Int.reduceSub, Int.reduceNeg, reduceIte, Nat.reduceEqDiff, Nat.reduceAdd, Nat.reduceSub, Nat.reduceMul, Nat.reduceLeDiff, Nat.reduceShiftRight, Nat.reduceMod, reduceCtorEq]
    exact ⟨m, n, hX, hY, rfl, hm, hn, rfl⟩
  · rintro k fr H n' ⟨p, q, hX, hY, hg, hlp, hlq, rfl, -⟩
    rcases hX.val with ⟨T5, f5⟩ | ⟨u5, f5⟩
    · rcases hY.val with ⟨T6, f6⟩ | ⟨u6, f6⟩
      · skip
        simp -implicitDefEqProofs (disch := omega) only [↓walk, plain, List.length_map, List.getElem?_map, Option.map_some, Nat.reduceBEq, decT, decF, iteT, iteF, wrap_ok, Int.reduceToNat, Int.reduceLE, Int.reduceLT, Int.reduceAdd, Int.reduceSub, Int.reduceNeg, reduceIte, Nat.reduceEqDiff, Nat.reduceAdd, Nat.reduceSub, Nat.reduceMul, Nat.reduceLeDiff, Nat.reduceShiftRight, Nat.reduceMod, reduceCtorEq, f5, f6]
        by_cases hn0 : q = 0
        · subst hn0
          have e0 : (limbs 0).length = 0 := by rw [limbs_zero]; rfl
          simp -implicitDefEqProofs (disch := omega) only [↓walk, plain, List.length_map, List.getElem?_map, Option.map_some, Nat.reduceBEq, decT, decF, iteT, iteF, wrap_ok, Int.reduceToNat, Int.reduceLE, Int.reduceLT, Int.reduceAdd, Int.reduceSub, Int.reduceNeg, reduceIte, Nat.reduceEqDiff, Nat.reduceAdd, Nat.reduceSub, Nat.reduceMul, Nat.reduceLeDiff, Nat.reduceShiftRight, Nat.reduceMod, reduceCtorEq, e0]
          rw [Nat.gcd_zero_right] at hg
          obtain ⟨t, _, ht⟩ := hX.fz
          rw [← hg]
          exact ht.data (by simp)
        have hq0 : 0 < (limbs q).length := by rw [List.length_pos_iff]; exact fun e => hn0 (limbs_nil.1 e)
        by_cases hs : (limbs p).length < 3 ∧ (limbs q).length < 3
        · simp -implicitDefEqProofs (disch := omega) only [↓walk, plain, List.length_map, List.getElem?_map, Option.map_some, Nat.reduceBEq, decT, decF, iteT, iteF, wrap_ok, Int.reduceToNat, Int.reduceLE, Int.reduceLT, Int.reduceAdd, Int.reduceSub, Int.reduceNeg, reduceIte, Nat.reduceEqDiff, Nat.reduceAdd, Nat.reduceSub, Nat.reduceMul, Nat.reduceLeDiff, Nat.reduceShiftRight, Nat.reduceMod, reduceCtorEq, f5, f6]
          have g1 := limbs_len_lt.1 (show (limbs p).length ≤ 2 by omega)
          have g2 := limbs_len_lt.1 (show (limbs q).length ≤ 2 by omega)
          simp only [pw] at g1 g2
          refine goCall_sc (k_spec_NatToInt p (by omega)) (vws_cons (f5 ▸ hX.vw) vws_nil) ?_
          simp -implicitDefEqProofs (disch := omega) only [↓walk, plain, List.length_map, List.getElem?_map, Option.map_some, Nat.reduceBEq, decT, decF, iteT, iteF, wrap_ok, Int.reduceToNat, Int.reduceLE, Int.reduceLT, Int.reduceAdd, Int.reduceSub, Int.reduceNeg, reduceIte, Nat.reduceEqDiff, Nat.reduceAdd, Nat.reduceSub, Nat.reduceMul, Nat.reduceLeDiff, Nat.reduceShiftRight, Nat.reduceMod, reduceCtorEq, f6]
          refine goCall_sc (k_spec_NatToInt q (by omega)) (vws_cons (f6 ▸ hY.vw) vws_nil) ?_
          simp -implicitDefEqProofs (disch := omega) only [↓walk, plain, List.length_map, List.getElem?_map, Option.map_some, Nat.reduceBEq, decT, decF, iteT, iteF, wrap_ok, Int.reduceToNat, Int.reduceLE, Int.reduceLT, Int.reduceAdd, Int.reduceSub, Int.reduceNeg, reduceIte, Nat.reduceEqDiff, Nat.reduceAdd, Nat.reduceSub, Nat.reduceMul, Nat.reduceLeDiff, Nat.reduceShiftRight, Nat.reduceMod, reduceCtorEq]
          refine goCall_fc (k_spec_l02Plain p q (by omega) (by omega)) (by repeat (first | exact vws_nil | refine vws_cons ?_ ?_ | exact vw_bb | exact vw_ii | exact vw_ss | exact vw_ints | exact vw_ints0 | exact vw_nn | exact vw_n0 | exact vwl_nil | refine vwl_cons ?_ ?_ | refine vw_agg ?_ | refine vw_fn ?_ | assumption)) ?_
          simp -implicitDefEqProofs (disch := omega) only [↓walk, plain, List.length_map, List.getElem?_map, Option.map_some, Nat.reduceBEq, decT, decF, iteT, iteF, wrap_ok, Int.reduceToNat, Int.reduceLE, Int.reduceLT, Int.reduceAdd, Int.reduceSub, Int.reduceNeg, reduceIte, Nat.reduceEqDiff, Nat.reduceAdd, Nat.reduceSub, Nat.reduceMul, Nat.reduceLeDiff, Nat.reduceShiftRight, Nat.reduceMod, reduceCtorEq]
          rw [hg]
          exact (fz_ints_sl rfl).data (by simp)
        · by_cases h3 : (limbs p).length < 3
          · simp -implicitDefEqProofs (disch := omega) only [↓walk, plain, List.length_map, List.getElem?_map, Option.map_some, Nat.reduceBEq, decT, decF, iteT, iteF, wrap_ok, Int.reduceToNat, Int.reduceLE, Int.reduceLT, Int.reduceAdd, Int.reduceSub, Int.reduceNeg, reduceIte, Nat.reduceEqDiff, Nat.reduceAdd, Nat.reduceSub, Nat.reduceMul, Nat.reduceLeDiff, Nat.reduceShiftRight, Nat.reduceMod, reduceCtorEq, f5, f6]
            refine goCall_fc (k_spec_l02Div p q (by omega) (by omega) (by omega)) (vws_cons (f5 ▸ hX.vw) (vws_cons (f6 ▸ hY.vw) vws_nil)) ?_
            simp -implicitDefEqProofs (disch := omega) only [↓walk, plain, List.length_map, List.getElem?_map, Option.map_some, Nat.reduceBEq, decT, decF, iteT, iteF, wrap_ok, Int.reduceToNat, Int.reduceLE, Int.reduceLT, Int.reduceAdd, Int.reduceSub, Int.reduceNeg, reduceIte, Nat.reduceEqDiff, Nat.reduceAdd, Nat.reduceSub, Nat.reduceMul, Nat.reduceLeDiff, Nat.reduceShiftRight, Nat.reduceMod, reduceCtorEq, f6]
            have hlt := Nat.mod_lt p (show 0 < q by omega)
            exact ⟨p % q, hlt, q, p % q, (f6 ▸ hY).keep (by omega) (fun _ _ _ => rfl), .inr ⟨_, by omega, by omega, rfl⟩, by rw [← hg, Nat.gcd_comm q, ← Nat.gcd_rec, Nat.gcd_comm], hlq, Nat.le_trans (limbs_len_mono (Nat.le_of_lt hlt)) hlq, rfl⟩
          · simp -implicitDefEqProofs (disch := omega) only [↓walk, plain, List.length_map, List.getElem?_map, Option.map_some, Nat.reduceBEq, decT, decF, iteT, iteF, wrap_ok, Int.reduceToNat, Int.reduceLE, Int.reduceLT, Int.reduceAdd, Int.reduceSub, Int.reduceNeg, reduceIte, Nat.reduceEqDiff, Nat.reduceAdd, Nat.reduceSub, Nat.reduceMul, Nat.reduceLeDiff, Nat.reduceShiftRight, Nat.reduceMod, reduceCtorEq, f5, f6]
            refine goCall_fc (k_spec_l02Div p q (by omega) (by omega) (by omega)) (vws_cons (f5 ▸ hX.vw) (vws_cons (f6 ▸ hY.vw) vws_nil)) ?_
            simp -implicitDefEqProofs (disch := omega) only [↓walk, plain, List.length_map, List.getElem?_map, Option.map_some, Nat.reduceBEq, decT, decF, iteT, iteF, wrap_ok, Int.reduceToNat, Int.reduceLE, Int.reduceLT, Int.reduceAdd, Int.reduceSub, Int.reduceNeg, reduceIte, Nat.reduceEqDiff, Nat.reduceAdd, Nat.reduceSub, Nat.reduceMul, Nat.reduceLeDiff, Nat.reduceShiftRight, Nat.reduceMod, reduceCtorEq, f6]
            have hlt := Nat.mod_lt p (show 0 < q by omega)
            exact ⟨p % q, hlt, q, p % q, (f6 ▸ hY).keep (by omega) (fun _ _ _ => rfl), .inr ⟨_, by omega, by omega, rfl⟩, by rw [← hg, Nat.gcd_comm q, ← Nat.gcd_rec, Nat.gcd_comm], hlq, Nat.le_trans (limbs_len_mono (Nat.le_of_lt hlt)) hlq, rfl⟩
      · skip
        simp -implicitDefEqProofs (disch := omega) only [↓walk, plain, List.length_map, List.getElem?_map, Option.map_some, Nat.reduceBEq, decT, decF, iteT, iteF, wrap_ok, Int.reduceToNat, Int.reduceLE, Int.reduceLT, Int.reduceAdd, Int.reduceSub, Int.reduceNeg, reduceIte, Nat.reduceEqDiff, Nat.reduceAdd, Nat.reduceSub, Nat.reduceMul, Nat.reduceLeDiff, Nat.reduceShiftRight, Nat.reduceMod, reduceCtorEq, f5, f6]
        by_cases hn0 : q = 0
        · subst hn0
          have e0 : (limbs 0).length = 0 := by rw [limbs_zero]; rfl
          simp -implicitDefEqProofs (disch := omega) only [↓walk, plain, List.length_map, List.getElem?_map, Option.map_some, Nat.reduceBEq, decT, decF, iteT, iteF, wrap_ok, Int.reduceToNat, Int.reduceLE, Int.reduceLT, Int.reduceAdd, Int.reduceSub, Int.reduceNeg, reduceIte, Nat.reduceEqDiff, Nat.reduceAdd, Nat.reduceSub, Nat.reduceMul, Nat.reduceLeDiff, Nat.reduceShiftRight, Nat.reduceMod, reduceCtorEq, e0]
          rw [Nat.gcd_zero_right] at hg
          obtain ⟨t, _, ht⟩ := hX.fz
          rw [← hg]
          exact ht.data (by simp)
        have hq0 : 0 < (limbs q).length := by rw [List.length_pos_iff]; exact fun e => hn0 (limbs_nil.1 e)
        by_cases hs : (limbs p).length < 3 ∧ (limbs q).length < 3
        · simp -implicitDefEqProofs (disch := omega) only [↓walk, plain, List.length_map, List.getElem?_map, Option.map_some, Nat.reduceBEq, decT, decF, iteT, iteF, wrap_ok, Int.reduceToNat, Int.reduceLE, Int.reduceLT, Int.reduceAdd, Int.reduceSub, Int.reduceNeg, reduceIte, Nat.reduceEqDiff, Nat.reduceAdd, Nat.reduceSub, Nat.reduceMul, Nat.reduceLeDiff, Nat.reduceShiftRight, Nat.reduceMod, reduceCtorEq, f5, f6]
          have g1 := limbs_len_lt.1 (show (limbs p).length ≤ 2 by omega)
          have g2 := limbs_len_lt.1 (show (limbs q).length ≤ 2 by omega)
          simp only [pw] at g1 g2
          refine goCall_sc (k_spec_NatToInt p (by omega)) (vws_cons (f5 ▸ hX.vw) vws_nil) ?_
          simp -implicitDefEqProofs (disch := omega) only [↓walk, plain, List.length_map, List.getElem?_map, Option.map_some, Nat.reduceBEq, decT, decF, iteT, iteF, wrap_ok, Int.reduceToNat, Int.reduceLE, Int.reduceLT, Int.reduceAdd, Int.reduceSub, Int.reduceNeg, reduceIte, Nat.reduceEqDiff, Nat.reduceAdd, Nat.reduceSub, Nat.reduceMul, Nat.reduceLeDiff, Nat.reduceShiftRight, Nat.reduceMod, reduceCtorEq, f6]
          refine goCall_sc (k_spec_NatToInt q (by omega)) (vws_cons (f6 ▸ hY.vw) vws_nil) ?_
          simp -implicitDefEqProofs (disch := omega) only [↓walk, plain, List.length_map, List.getElem?_map, Option.map_some, Nat.reduceBEq, decT, decF, iteT, iteF, wrap_ok, Int.reduceToNat, Int.reduceLE, Int.reduceLT, Int.reduceAdd, Int.reduceSub, Int.reduceNeg, reduceIte, Nat.reduceEqDiff, Nat.reduceAdd, Nat.reduceSub, Nat.reduceMul, Nat.reduceLeDiff, Nat.reduceShiftRight, Nat.reduceMod, reduceCtorEq]
          refine goCall_fc (k_spec_l02Plain p q (by omega) (by omega)) (by repeat (first | exact vws_nil | refine vws_cons ?_ ?_ | exact vw_bb | exact vw_ii | exact vw_ss | exact vw_ints | exact vw_ints0 | exact vw_nn | exact vw_n0 | exact vwl_nil | refine vwl_cons ?_ ?_ | refine vw_agg ?_ | refine vw_fn ?_ | assumption)) ?_
          simp -implicitDefEqProofs (disch := omega) only [↓walk, plain, List.length_map, List.getElem?_map, Option.map_some, Nat.reduceBEq, decT, decF, iteT, iteF, wrap_ok, Int.reduceToNat, Int.reduceLE, Int.reduceLT, Int.reduceAdd, Int.reduceSub, Int.reduceNeg, reduceIte, Nat.reduceEqDiff, Nat.reduceAdd, Nat.reduceSub, Nat.reduceMul, Nat.reduceLeDiff, Nat.reduceShiftRight, Nat.reduceMod, reduceCtorEq]
          rw [hg]
          exact (fz_ints_sl rfl).data (by simp)
        · by_cases h3 : (limbs p).length < 3
          · simp -implicitDefEqProofs (disch := omega) only [↓walk, plain, List.length_map, List.getElem?_map, Option.map_some, Nat.reduceBEq, decT, decF, iteT, iteF, wrap_ok, Int.reduceToNat, Int.reduceLE, Int.reduceLT, Int.reduceAdd, Int.reduceSub, Int.reduceNeg, reduceIte, Nat.reduceEqDiff, Nat.reduceAdd, Nat.reduceSub, Nat.reduceMul, Nat.reduceLeDiff, Nat.reduceShiftRight, Nat.reduceMod, reduceCtorEq, f5, f6]
            refine goCall_fc (k_spec_l02Div p q (by omega) (by omega) (by omega)) (vws_cons (f5 ▸ hX.vw) (vws_cons (f6 ▸ hY.vw) vws_nil)) ?_
            simp -implicitDefEqProofs (disch := omega) only [↓walk, plain, List.length_map, List.getElem?_map, Option.map_some, Nat.reduceBEq, decT, decF, iteT, iteF, wrap_ok, Int.reduceToNat, Int.reduceLE, Int.reduceLT, Int.reduceAdd, Int.reduceSub, Int.reduceNeg, reduceIte, Nat.reduceEqDiff, Nat.reduceAdd, Nat.reduceSub, Nat.reduceMul, Nat.reduceLeDiff, Nat.reduceShiftRight, Nat.reduceMod, reduceCtorEq, f6]
            have hlt := Nat.mod_lt p (show 0 < q by omega)
            exact ⟨p % q, hlt, q, p % q, (f6 ▸ hY).keep (by omega) (fun _ _ _ => rfl), .inr ⟨_, by omega, by omega, rfl⟩, by rw [← hg, Nat.gcd_comm q, ← Nat.gcd_rec, Nat.gcd_comm], hlq, Nat.le_trans (limbs_len_mono (Nat.le_of_lt hlt)) hlq, rfl⟩
          · simp -implicitDefEqProofs (disch := omega) only [↓walk, plain, List.length_map, List.getElem?_map, Option.map_some, Nat.reduceBEq, decT, decF, iteT, iteF, wrap_ok, Int.reduceToNat, Int.reduceLE, Int.reduceLT, Int.reduceAdd, Int.reduceSub, Int.reduceNeg, reduceIte, Nat.reduceEqDiff, Nat.reduceAdd, Nat.reduceSub, Nat.reduceMul, Nat.reduceLeDiff, Nat.reduceShiftRight, Nat.reduceMod, reduceCtorEq, f5, f6]
            refine goCall_fc (k_spec_l02Div p q (by omega) (by omega) (by omega)) (vws_cons (f5 ▸ hX.vw) (vws_cons (f6 ▸ hY.vw) vws_nil)) ?_
            simp -implicitDefEqProofs (disch := omega) only [↓walk, plain, List.length_map, List.getElem?_map, Option.map_some, Nat.reduceBEq, decT, decF, iteT, iteF, wrap_ok, Int.reduceToNat, Int.reduceLE, Int.reduceLT, Int.reduceAdd, Int.reduceSub, Int.reduceNeg, reduceIte, Nat.reduceEqDiff, Nat.reduceAdd, Nat.reduceSub, Nat.reduceMul, Nat.reduceLeDiff, Nat.reduceShiftRight, Nat.reduceMod, reduceCtorEq, f6]
            have hlt := Nat.mod_lt p (show 0 < q by omega)
            exact ⟨p % q, hlt, q, p % q, (f6 ▸ hY).keep (by omega) (fun _ _ _ => rfl), .inr ⟨_, by omega, by omega, rfl⟩, by rw [← hg, Nat.gcd_comm q, ← Nat.gcd_rec, Nat.gcd_comm], hlq, Nat.le_trans (limbs_len_mono (Nat.le_of_lt hlt)) hlq, rfl⟩
    · rcases hY.val with ⟨T6, f6⟩ | ⟨u6, f6⟩
      · skip
        simp -implicitDefEqProofs (disch := omega) only [↓walk, plain, List.length_map, List.getElem?_map, Option.map_some, Nat.reduceBEq, decT, decF, iteT, iteF, wrap_ok, Int.reduceToNat, Int.reduceLE, Int.reduceLT, Int.reduceAdd, Int.reduceSub, Int.reduceNeg, reduceIte, Nat.reduceEqDiff, Nat.reduceAdd, Nat.reduceSub, Nat.reduceMul, Nat.reduceLeDiff, Nat.reduceShiftRight, Nat.reduceMod, reduceCtorEq, f5, f6]
        by_cases hn0 : q = 0
        · subst hn0
          have e0 : (limbs 0).length = 0 := by rw [limbs_zero]; rfl
          simp -implicitDefEqProofs (disch := omega) only [↓walk, plain, List.length_map, List.getElem?_map, Option.map_some, Nat.reduceBEq, decT, decF, iteT, iteF, wrap_ok, Int.reduceToNat, Int.reduceLE, Int.reduceLT, Int.reduceAdd, Int.reduceSub, Int.reduceNeg, reduceIte, Nat.reduceEqDiff, Nat.reduceAdd, Nat.reduceSub, Nat.reduceMul, Nat.reduceLeDiff, Nat.reduceShiftRight, Nat.reduceMod, reduceCtorEq, e0]
          rw [Nat.gcd_zero_right] at hg
          obtain ⟨t, _, ht⟩ := hX.fz
          rw [← hg]
          exact ht.data (by simp)
        have hq0 : 0 < (limbs q).length := by rw [List.length_pos_iff]; exact fun e => hn0 (limbs_nil.1 e)
        by_cases hs : (limbs p).length < 3 ∧ (limbs q).length < 3
        · simp -implicitDefEqProofs (disch := omega) only [↓walk, plain, List.length_map, List.getElem?_map, Option.map_some, Nat.reduceBEq, decT, decF, iteT, iteF, wrap_ok, Int.reduceToNat, Int.reduceLE, Int.reduceLT, Int.reduceAdd, Int.reduceSub, Int.reduceNeg, reduceIte, Nat.reduceEqDiff, Nat.reduceAdd, Nat.reduceSub, Nat.reduceMul, Nat.reduceLeDiff, Nat.reduceShiftRight, Nat.reduceMod, reduceCtorEq, f5, f6]
          have g1 := limbs_len_lt.1 (show (limbs p).length ≤ 2 by omega)
          have g2 := limbs_len_lt.1 (show (limbs q).length ≤ 2 by omega)
          simp only [pw] at g1 g2
          refine goCall_sc (k_spec_NatToInt p (by omega)) (vws_cons (f5 ▸ hX.vw) vws_nil) ?_
          simp -implicitDefEqProofs (disch := omega) only [↓walk, plain, List.length_map, List.getElem?_map, Option.map_some, Nat.reduceBEq, decT, decF, iteT, iteF, wrap_ok, Int.reduceToNat, Int.reduceLE, Int.reduceLT, Int.reduceAdd, Int.reduceSub, Int.reduceNeg, reduceIte, Nat.reduceEqDiff, Nat.reduceAdd, Nat.reduceSub, Nat.reduceMul, Nat.reduceLeDiff, Nat.reduceShiftRight, Nat.reduceMod, reduceCtorEq, f6]
          refine goCall_sc (k_spec_NatToInt q (by omega)) (vws_cons (f6 ▸ hY.vw) vws_nil) ?_
          simp -implicitDefEqProofs (disch := omega) only [↓walk, plain, List.length_map, List.getElem?_map, Option.map_some, Nat.reduceBEq, decT, decF, iteT, iteF, wrap_ok, Int.reduceToNat, Int.reduceLE, Int.reduceLT, Int.reduceAdd, Int.reduceSub, Int.reduceNeg, reduceIte, Nat.reduceEqDiff, Nat.reduceAdd, Nat.reduceSub, Nat.reduceMul, Nat.reduceLeDiff, Nat.reduceShiftRight, Nat.reduceMod, reduceCtorEq]
          refine goCall_fc (k_spec_l02Plain p q (by omega) (by omega)) (by repeat (first | exact vws_nil | refine vws_cons ?_ ?_ | exact vw_bb | exact vw_ii | exact vw_ss | exact vw_ints | exact vw_ints0 | exact vw_nn | exact vw_n0 | exact vwl_nil | refine vwl_cons ?_ ?_ | refine vw_agg ?_ | refine vw_fn ?_ | assumption)) ?_
          simp -implicitDefEqProofs (disch := omega) only [↓walk, plain, List.length_map, List.getElem?_map, Option.map_some, Nat.reduceBEq, decT, decF, iteT, iteF, wrap_ok, Int.reduceToNat, Int.reduceLE, Int.reduceLT, Int.reduceAdd, Int.reduceSub, Int.reduceNeg, reduceIte, Nat.reduceEqDiff, Nat.reduceAdd, Nat.reduceSub, Nat.reduceMul, Nat.reduceLeDiff, Nat.reduceShiftRight, Nat.reduceMod, reduceCtorEq]
          rw [hg]
          exact (fz_ints_sl rfl).data (by simp)
        · by_cases h3 : (limbs p).length < 3
          · simp -implicitDefEqProofs (disch := omega) only [↓walk, plain, List.length_map, List.getElem?_map, Option.map_some, Nat.reduceBEq, decT, decF, iteT, iteF, wrap_ok, Int.reduceToNat, Int.reduceLE, Int.reduceLT, Int.reduceAdd, Int.reduceSub, Int.reduceNeg, reduceIte, Nat.reduceEqDiff, Nat.reduceAdd, Nat.reduceSub, Nat.reduceMul, Nat.reduceLeDiff, Nat.reduceShiftRight, Nat.reduceMod, reduceCtorEq, f5, f6]
            refine goCall_fc (k_spec_l02Div p q (by omega) (by omega) (by omega)) (vws_cons (f5 ▸ hX.vw) (vws_cons (f6 ▸ hY.vw) vws_nil)) ?_
            simp -implicitDefEqProofs (disch := omega) only [↓walk, plain, List.length_map, List.getElem?_map, Option.map_some, Nat.reduceBEq, decT, decF, iteT, iteF, wrap_ok, Int.reduceToNat, Int.reduceLE, Int.reduceLT, Int.reduceAdd, Int.reduceSub, Int.reduceNeg, reduceIte, Nat.reduceEqDiff, Nat.reduceAdd, Nat.reduceSub, Nat.reduceMul, Nat.reduceLeDiff, Nat.reduceShiftRight, Nat.reduceMod, reduceCtorEq, f6]
            have hlt := Nat.mod_lt p (show 0 < q by omega)
            exact ⟨p % q, hlt, q, p % q, (f6 ▸ hY).keep (by omega) (fun _ _ _ => rfl), .inr ⟨_, by omega, by omega, rfl⟩, by rw [← hg, Nat.gcd_comm q, ← Nat.gcd_rec, Nat.gcd_comm], hlq, Nat.le_trans (limbs_len_mono (Nat.le_of_lt hlt)) hlq, rfl⟩
          · simp -implicitDefEqProofs (disch := omega) only [↓walk, plain, List.length_map, List.getElem?_map, Option.map_some, Nat.reduceBEq, decT, decF, iteT, iteF, wrap_ok, Int.reduceToNat, Int.reduceLE, Int.reduceLT, Int.reduceAdd, Int.reduceSub, Int.reduceNeg, reduceIte, Nat.reduceEqDiff, Nat.reduceAdd, Nat.reduceSub, Nat.reduceMul, Nat.reduceLeDiff, Nat.reduceShiftRight, Nat.reduceMod, reduceCtorEq, f5, f6]
            refine goCall_fc (k_spec_l02Div p q (by omega) (by omega) (by omega)) (vws_cons (f5 ▸ hX.vw) (vws_cons (f6 ▸ hY.vw) vws_nil)) ?_
            simp -implicitDefEqProofs (disch := omega) only [↓walk, plain, List.length_map, List.getElem?_map, Option.map_some, Nat.reduceBEq, decT, decF, iteT, iteF, wrap_ok, Int.reduceToNat, Int.reduceLE, Int.reduceLT, Int.reduceAdd, Int.reduceSub, Int.reduceNeg, reduceIte, Nat.reduceEqDiff, Nat.reduceAdd, Nat.reduceSub, Nat.reduceMul, Nat.reduceLeDiff, Nat.reduceShiftRight, Nat.reduceMod, reduceCtorEq, f6]
            have hlt := Nat.mod_lt p (show 0 < q by omega)
            exact ⟨p % q, hlt, q, p % q, (f6 ▸ hY).keep (by omega) (fun _ _ _ => rfl), .inr ⟨_, by omega, by omega, rfl⟩, by rw [← hg, Nat.gcd_comm q, ← Nat.gcd_rec, Nat.gcd_comm], hlq, Nat.le_trans (limbs_len_mono (Nat.le_of_lt hlt)) hlq, rfl⟩
      · skip
        simp -implicitDefEqProofs (disch := omega) only [↓walk, plain, List.length_map, List.getElem?_map, Option.map_some, Nat.reduceBEq, decT, decF, iteT, iteF, wrap_ok, Int.reduceToNat, Int.reduceLE, Int.reduceLT, Int.reduceAdd, Int.reduceSub, Int.reduceNeg, reduceIte, Nat.reduceEqDiff, Nat.reduceAdd, Nat.reduceSub, Nat.reduceMul, Nat.reduceLeDiff, Nat.reduceShiftRight, Nat.reduceMod, reduceCtorEq, f5, f6]
        by_cases hn0 : q = 0
        · subst hn0
          have e0 : (limbs 0).length = 0 := by rw [limbs_zero]; rfl
          simp -implicitDefEqProofs (disch := omega) only [↓walk, plain, List.length_map, List.getElem?_map, Option.map_some, Nat.reduceBEq, decT, decF, iteT, iteF, wrap_ok, Int.reduceToNat, Int.reduceLE, Int.reduceLT, Int.reduceAdd, Int.reduceSub, Int.reduceNeg, reduceIte, Nat.reduceEqDiff, Nat.reduceAdd, Nat.reduceSub, Nat.reduceMul, Nat.reduceLeDiff, Nat.reduceShiftRight, Nat.reduceMod, reduceCtorEq, e0]
          rw [Nat.gcd_zero_right] at hg
          obtain ⟨t, _, ht⟩ := hX.fz
          rw [← hg]
          exact ht.data (by simp)
        have hq0 : 0 < (limbs q).length := by rw [List.length_pos_iff]; exact fun e => hn0 (limbs_nil.1 e)
        by_cases hs : (limbs p).length < 3 ∧ (limbs q).length < 3
        · simp -implicitDefEqProofs (disch := omega) only [↓walk, plain, List.length_map, List.getElem?_map, Option.map_some, Nat.reduceBEq, decT, decF, iteT, iteF, wrap_ok, Int.reduceToNat, Int.reduceLE, Int.reduceLT, Int.reduceAdd, Int.reduceSub, Int.reduceNeg, reduceIte, Nat.reduceEqDiff, Nat.reduceAdd, Nat.reduceSub, Nat.reduceMul, Nat.reduceLeDiff, Nat.reduceShiftRight, Nat.reduceMod, reduceCtorEq, f5, f6]
          have g1 := limbs_len_lt.1 (show (limbs p).length ≤ 2 by omega)
          have g2 := limbs_len_lt.1 (show (limbs q).length ≤ 2 by omega)
          simp only [pw] at g1 g2
          refine goCall_sc (k_spec_NatToInt p (by omega)) (vws_cons (f5 ▸ hX.vw) vws_nil) ?_
          simp -implicitDefEqProofs (disch := omega) only [↓walk, plain, List.length_map, List.getElem?_map, Option.map_some, Nat.reduceBEq, decT, decF, iteT, iteF, wrap_ok, Int.reduceToNat, Int.reduceLE, Int.reduceLT, Int.reduceAdd, Int.reduceSub, Int.reduceNeg, reduceIte, Nat.reduceEqDiff, Nat.reduceAdd, Nat.reduceSub, Nat.reduceMul, Nat.reduceLeDiff, Nat.reduceShiftRight, Nat.reduceMod, reduceCtorEq, f6]
          refine goCall_sc (k_spec_NatToInt q (by omega)) (vws_cons (f6 ▸ hY.vw) vws_nil) ?_
          simp -implicitDefEqProofs (disch := omega) only [↓walk, plain, List.length_map, List.getElem?_map, Option.map_some, Nat.reduceBEq, decT, decF, iteT, iteF, wrap_ok, Int.reduceToNat, Int.reduceLE, Int.reduceLT, Int.reduceAdd, Int.reduceSub, Int.reduceNeg, reduceIte, Nat.reduceEqDiff, Nat.reduceAdd, Nat.reduceSub, Nat.reduceMul, Nat.reduceLeDiff, Nat.reduceShiftRight, Nat.reduceMod, reduceCtorEq]
          refine goCall_fc (k_spec_l02Plain p q (by omega) (by omega)) (by repeat (first | exact vws_nil | refine vws_cons ?_ ?_ | exact vw_bb | exact vw_ii | exact vw_ss | exact vw_ints | exact vw_ints0 | exact vw_nn | exact vw_n0 | exact vwl_nil | refine vwl_cons ?_ ?_ | refine vw_agg ?_ | refine vw_fn ?_ | assumption)) ?_
          simp -implicitDefEqProofs (disch := omega) only [↓walk, plain, List.length_map, List.getElem?_map, Option.map_some, Nat.reduceBEq, decT, decF, iteT, iteF, wrap_ok, Int.reduceToNat, Int.reduceLE, Int.reduceLT, Int.reduceAdd, Int.reduceSub, Int.reduceNeg, reduceIte, Nat.reduceEqDiff, Nat.reduceAdd, Nat.reduceSub, Nat.reduceMul, Nat.reduceLeDiff, Nat.reduceShiftRight, Nat.reduceMod, reduceCtorEq]
          rw [hg]
          exact (fz_ints_sl rfl).data (by simp)
        · by_cases h3 : (limbs p).length < 3
          · simp -implicitDefEqProofs (disch := omega) only [↓walk, plain, List.length_map, List.getElem?_map, Option.map_some, Nat.reduceBEq, decT, decF, iteT, iteF, wrap_ok, Int.reduceToNat, Int.reduceLE, Int.reduceLT, Int.reduceAdd, Int.reduceSub, Int.reduceNeg, reduceIte, Nat.reduceEqDiff, Nat.reduceAdd, Nat.reduceSub, Nat.reduceMul, Nat.reduceLeDiff, Nat.reduceShiftRight, Nat.reduceMod, reduceCtorEq, f5, f6]
            refine goCall_fc (k_spec_l02Div p q (by omega) (by omega) (by omega)) (vws_cons (f5 ▸ hX.vw) (vws_cons (f6 ▸ hY.vw) vws_nil)) ?_
            simp -implicitDefEqProofs (disch := omega) only [↓walk, plain, List.length_map, List.getElem?_map, Option.map_some, Nat.reduceBEq, decT, decF, iteT, iteF, wrap_ok, Int.reduceToNat, Int.reduceLE, Int.reduceLT, Int.reduceAdd, Int.reduceSub, Int.reduceNeg, reduceIte, Nat.reduceEqDiff, Nat.reduceAdd, Nat.reduceSub, Nat.reduceMul, Nat.reduceLeDiff, Nat.reduceShiftRight, Nat.reduceMod, reduceCtorEq, f6]
            have hlt := Nat.mod_lt p (show 0 < q by omega)
            exact ⟨p % q, hlt, q, p % q, (f6 ▸ hY).keep (by omega) (fun _ _ _ => rfl), .inr ⟨_, by omega, by omega, rfl⟩, by rw [← hg, Nat.gcd_comm q, ← Nat.gcd_rec, Nat.gcd_comm], hlq, Nat.le_trans (limbs_len_mono (Nat.le_of_lt hlt)) hlq, rfl⟩
          · simp -implicitDefEqProofs (disch := omega) only [↓walk, plain, List.length_map, List.getElem?_map, Option.map_some, Nat.reduceBEq, decT, decF, iteT, iteF, wrap_ok, Int.reduceToNat, Int.reduceLE, Int.reduceLT, Int.reduceAdd, Int.reduceSub, Int.reduceNeg, reduceIte, Nat.reduceEqDiff, Nat.reduceAdd, Nat.reduceSub, Nat.reduceMul, Nat.reduceLeDiff, Nat.reduceShiftRight, Nat.reduceMod, reduceCtorEq, f5, f6]
            refine goCall_fc (k_spec_l02Div p q (by omega) (by omega) (by omega)) (vws_cons (f5 ▸ hX.vw) (vws_cons (f6 ▸ hY.vw) vws_nil)) ?_
            simp -implicitDefEqProofs (disch := omega) only [↓walk, plain, List.length_map, List.getElem?_map, Option.map_some, Nat.reduceBEq, decT, decF, iteT, iteF, wrap_ok, Int.reduceToNat, Int.reduceLE, Int.reduceLT, Int.reduceAdd, Int.reduceSub, Int.reduceNeg, reduceIte, Nat.reduceEqDiff, Nat.reduceAdd, Nat.reduceSub, Nat.reduceMul, Nat.reduceLeDiff, Nat.reduceShiftRight, Nat.reduceMod, reduceCtorEq, f6]
            have hlt := Nat.mod_lt p (show 0 < q by omega)
            exact ⟨p % q, hlt, q, p % q, (f6 ▸ hY).keep (by omega) (fun _ _ _ => rfl), .inr ⟨_, by omega, by omega, rfl⟩, by rw [← hg, Nat.gcd_comm q, ← Nat.gcd_rec, Nat.gcd_comm], hlq, Nat.le_trans (limbs_len_mono (Nat.le_of_lt hlt)) hlq, rfl⟩

end Go.Am
