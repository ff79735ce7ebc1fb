/-
  A part of the proof that the law FnExactAbsoluteOf holds for every input: walks through the functions. No conditions.
-/
import Derived.Test.YtdghdngpeidmnaaAb3
set_option linter.unusedVariables false
set_option linter.unusedSimpArgs false
/-! Walk: the program's division. -/
namespace Go.Am
set_option linter.unusedVariables false
set_option linter.unusedSimpArgs false
set_option maxRecDepth 10000
set_option maxHeartbeats 8000000
theorem last_of {b : Nat} (hb : 0 < b) : ∃ t, (limbs b)[(limbs b).length - 1]? = some t ∧ 1 ≤ t ∧ t < 1000000000 ∧ t * pw ((limbs b).length - 1) ≤ b ∧ (b : Int) < (t + 1) * pw ((limbs b).length - 1) := by
  have hne : limbs b ≠ [] := fun e => by have := limbs_nil.1 e; omega
  have hl : 0 < (limbs b).length := List.length_pos_iff.2 hne
  obtain ⟨t, ht⟩ := getc (xs := limbs b) (i := (limbs b).length - 1) (by omega)
  have bt := (limbs_dig b).at ht
  have h0 := limbs_top b t ht
  have hs := val_split (limbs b) ((limbs b).length - 1) (by omega)
  rw [val_limbs, val_drop ht, List.drop_of_length_le (by omega)] at hs
  simp only [val, Int.mul_zero, Int.add_zero] at hs
  have l1 := ((limbs_dig b).take ((limbs b).length - 1)).nonneg
  have l2 := ((limbs_dig b).take ((limbs b).length - 1)).lt
  rw [List.length_take, Nat.min_eq_left (by omega)] at l2
  have e1 : pw ((limbs b).length - 1) * t = t * pw ((limbs b).length - 1) := Int.mul_comm _ _
  have e2 : (t + 1) * pw ((limbs b).length - 1) = t * pw ((limbs b).length - 1) + pw ((limbs b).length - 1) := by grind
  exact ⟨t, ht, by omega, bt.2, by omega, by omega⟩
/-- The scaled divisor. -/
theorem scale {b f : Nat} {t : Int} (hb : 0 < b) (ht : (limbs b)[(limbs b).length - 1]? = some t) (h1 : 1 ≤ t) (h2 : t * pw ((limbs b).length - 1) ≤ b) (h3 : (b : Int) < (t + 1) * pw ((limbs b).length - 1)) (hf1 : 1 ≤ f) (hf2 : (f : Int) * (t + 1) ≤ 1000000000) (hf3 : 1000000000 ≤ 2 * ((f : Int) * t)) :
    (limbs (b * f)).length = (limbs b).length ∧ ∃ s, (limbs (b * f))[(limbs b).length - 1]? = some s ∧ 1000000000 ≤ 2 * s := by
  have hne : limbs b ≠ [] := fun e => by have := limbs_nil.1 e; omega
  have hl : 0 < (limbs b).length := List.length_pos_iff.2 hne
  have hp := pw_pos ((limbs b).length - 1)
  have hlen : (limbs (b * f)).length = (limbs b).length := by
    refine Nat.le_antisymm ?_ (limbs_len_mono (Nat.le_mul_of_pos_right b hf1))
    rw [limbs_len_lt, Int.natCast_mul]
    have e : pw (limbs b).length = 1000000000 * pw ((limbs b).length - 1) := by
      conv => lhs; rw [show (limbs b).length = ((limbs b).length - 1) + 1 by omega]
      rfl
    rw [e]
    have g1 : (b : Int) * f < (t + 1) * pw ((limbs b).length - 1) * f := Int.mul_lt_mul_of_pos_right h3 (by omega)
    have g2 : (f : Int) * (t + 1) * pw ((limbs b).length - 1) ≤ 1000000000 * pw ((limbs b).length - 1) := Int.mul_le_mul_of_nonneg_right hf2 (Int.le_of_lt hp)
    have g3 : (t + 1) * pw ((limbs b).length - 1) * f = (f : Int) * (t + 1) * pw ((limbs b).length - 1) := by grind
    omega
  refine ⟨hlen, ?_⟩
  obtain ⟨s, hs, s1, s2, s3, s4⟩ := last_of (b := b * f) (Nat.mul_pos hb hf1)
  rw [hlen] at hs s3 s4
  refine ⟨s, hs, ?_⟩
  rw [Int.natCast_mul] at s4
  have g1 : t * pw ((limbs b).length - 1) * f ≤ (b : Int) * f := Int.mul_le_mul_of_nonneg_right h2 (by omega)
  have g2 : (f : Int) * t * pw ((limbs b).length - 1) < (s + 1) * pw ((limbs b).length - 1) := by
    have : t * pw ((limbs b).length - 1) * f = (f : Int) * t * pw ((limbs b).length - 1) := by grind
    omega
  have := lt_of_mul hp g2
  omega
def c_impl_natDiv (n_impl_natCmp : Nat) (n_impl_copyInts : Nat) (n_impl_divSmall : Nat) (n_impl_natMul : Nat) (n_impl_trim : Nat) : AF := ⟨239, .seq (.ops [⟨(some 4), .mv (.c .nl), none, []⟩,
   ⟨(some 5), .mv (.c .nl), none, []⟩])
  (.seq (.seq (.ops [⟨(some 24), .mv (.t 0), none, []⟩,
   ⟨(some 25), .mv (.t 1), none, []⟩,
   ⟨(some 26), .call true n_impl_natCmp [(.t 24), (.t 25)], none, []⟩,
   ⟨(some 27), .bin .lss (.t 26) (.c (.i .i64 0)), none, []⟩])
  (.cond (.t 27)
  (.seq (.ops [⟨(some 28), .mv (.t 0), none, []⟩,
    ⟨(some 29), .call true n_impl_copyInts [(.t 28)], none, []⟩,
    ⟨(some 4), .mv (.c .nl), none, []⟩,
    ⟨(some 5), .mv (.t 29), none, []⟩])
   (.ret))
  (.skip)))
  (.seq (.seq (.ops [⟨(some 30), .mv (.t 1), none, []⟩,
   ⟨(some 31), .len (.t 30), none, []⟩,
   ⟨(some 32), .bin .eql (.t 31) (.c (.i .i64 1)), none, []⟩])
  (.cond (.t 32)
  (.seq (.ops [⟨(some 33), .mv (.t 0), none, []⟩,
    ⟨(some 34), .mv (.t 1), none, []⟩,
    ⟨(some 35), .iad 1 (.t 34) (.c (.i .i64 0)), none, []⟩,
    ⟨(some 36), .ld none (.t 35), none, []⟩,
    ⟨(some 37), .call true n_impl_divSmall [(.t 33), (.t 36)], none, []⟩,
    ⟨(some 38), .ext 0 (.t 37), none, []⟩,
    ⟨(some 39), .ext 1 (.t 37), none, []⟩,
    ⟨(some 4), .mv (.t 38), none, []⟩,
    ⟨(some 5), .mv (.t 39), none, []⟩])
   (.ret))
  (.skip)))
  (.seq (.ops [⟨(some 40), .mv (.t 1), none, []⟩,
   ⟨(some 41), .mv (.t 1), none, []⟩,
   ⟨(some 42), .len (.t 41), none, []⟩,
   ⟨(some 43), .bin .sub (.t 42) (.c (.i .i64 1)), none, []⟩,
   ⟨(some 44), .iad 1 (.t 40) (.t 43), none, []⟩,
   ⟨(some 45), .ld none (.t 44), none, []⟩,
   ⟨(some 46), .bin .add (.t 45) (.c (.i .i64 1)), none, []⟩,
   ⟨(some 47), .bin .quo (.c (.i .i64 1000000000)) (.t 46), none, []⟩,
   ⟨(some 6), .mv (.t 47), none, []⟩])
  (.seq (.ops [⟨(some 48), .mv (.t 0), none, []⟩,
   ⟨(some 49), .mv (.t 6), none, []⟩,
   ⟨(some 50), .bsl (.i .i64 0) 1 [(0, (.t 49))], none, []⟩,
   ⟨(some 51), .call true n_impl_natMul [(.t 48), (.t 50)], none, []⟩,
   ⟨(some 7), .mv (.t 51), none, []⟩])
  (.seq (.ops [⟨(some 52), .mv (.t 1), none, []⟩,
   ⟨(some 53), .mv (.t 6), none, []⟩,
   ⟨(some 54), .bsl (.i .i64 0) 1 [(0, (.t 53))], none, []⟩,
   ⟨(some 55), .call true n_impl_natMul [(.t 52), (.t 54)], none, []⟩,
   ⟨(some 8), .mv (.t 55), none, []⟩])
  (.seq (.ops [⟨(some 56), .mv (.t 8), none, []⟩,
   ⟨(some 57), .len (.t 56), none, []⟩,
   ⟨(some 9), .mv (.t 57), none, []⟩])
  (.seq (.block 0 (.loop (.seq (.seq (.ops [⟨(some 58), .mv (.t 7), none, []⟩,
   ⟨(some 59), .len (.t 58), none, []⟩,
   ⟨(some 60), .mv (.t 0), none, []⟩,
   ⟨(some 61), .len (.t 60), none, []⟩,
   ⟨(some 62), .bin .leq (.t 59) (.t 61), none, []⟩])
  (.cond (.t 62)
  (.skip)
  (.exit 0)))
  (.block 1 (.ops [⟨(some 63), .mv (.t 7), none, []⟩,
   ⟨(some 64), .bsl (.i .i64 0) 1 [(0, (.c (.i .i64 0)))], none, []⟩,
   ⟨(some 65), .app 1 8 (.t 63) (.t 64), none, []⟩,
   ⟨(some 7), .mv (.t 65), none, []⟩])))))
  (.seq (.ops [⟨(some 66), .mv (.t 7), none, []⟩,
   ⟨(some 67), .len (.t 66), none, []⟩,
   ⟨(some 68), .mv (.t 9), none, []⟩,
   ⟨(some 69), .bin .sub (.t 67) (.t 68), none, []⟩,
   ⟨(some 70), .mks (.i .i64 0) 8 (.t 69) (.t 69), none, []⟩,
   ⟨(some 10), .mv (.t 70), none, []⟩])
  (.seq (.ops [⟨(some 71), .mv (.t 8), none, []⟩,
   ⟨(some 72), .mv (.t 9), none, []⟩,
   ⟨(some 73), .bin .sub (.t 72) (.c (.i .i64 1)), none, []⟩,
   ⟨(some 74), .iad 1 (.t 71) (.t 73), none, []⟩,
   ⟨(some 75), .ld none (.t 74), none, []⟩,
   ⟨(some 11), .mv (.t 75), none, []⟩])
  (.seq (.seq (.ops [⟨(some 76), .mv (.t 7), none, []⟩,
   ⟨(some 77), .len (.t 76), none, []⟩,
   ⟨(some 78), .mv (.t 9), none, []⟩,
   ⟨(some 79), .bin .sub (.t 77) (.t 78), none, []⟩,
   ⟨(some 80), .bin .sub (.t 79) (.c (.i .i64 1)), none, []⟩,
   ⟨(some 12), .mv (.t 80), none, []⟩])
  (.block 2 (.loop (.seq (.seq (.ops [⟨(some 81), .mv (.t 12), none, []⟩,
   ⟨(some 82), .bin .geq (.t 81) (.c (.i .i64 0)), none, []⟩])
  (.cond (.t 82)
  (.skip)
  (.exit 2)))
  (.seq (.block 3 (.seq (.opsd [(0, ⟨(some 85), .mv (.t 7), none, []⟩),
   (1, ⟨(some 86), .mv (.t 12), none, []⟩),
   (2, ⟨(some 87), .mv (.t 9), none, []⟩),
   (3, ⟨(some 88), .bin .add (.t 86) (.t 87), none, []⟩),
   (4, ⟨(some 89), .iad 1 (.t 85) (.t 88), none, []⟩),
   (5, ⟨(some 90), .ld none (.t 89), none, []⟩),
   (6, ⟨(some 91), .bin .mul (.t 90) (.c (.i .i64 1000000000)), none, []⟩),
   (7, ⟨(some 92), .mv (.t 7), none, []⟩),
   (8, ⟨(some 93), .mv (.t 12), none, []⟩),
   (9, ⟨(some 94), .mv (.t 9), none, []⟩),
   (10, ⟨(some 95), .bin .add (.t 93) (.t 94), none, []⟩),
   (11, ⟨(some 96), .bin .sub (.t 95) (.c (.i .i64 1)), none, []⟩),
   (12, ⟨(some 97), .iad 1 (.t 92) (.t 96), none, []⟩),
   (13, ⟨(some 98), .ld none (.t 97), none, []⟩),
   (14, ⟨(some 99), .bin .add (.t 91) (.t 98), none, []⟩),
   (15, ⟨(some 13), .mv (.t 99), none, []⟩)])
  (.seq (.opsd [(0, ⟨(some 100), .mv (.t 13), none, []⟩),
   (1, ⟨(some 101), .mv (.t 11), none, []⟩),
   (2, ⟨(some 102), .bin .quo (.t 100) (.t 101), none, []⟩),
   (3, ⟨(some 103), .mv (.t 13), none, []⟩),
   (4, ⟨(some 104), .mv (.t 11), none, []⟩),
   (5, ⟨(some 105), .bin .rem (.t 103) (.t 104), none, []⟩),
   (6, ⟨(some 14), .mv (.t 102), none, []⟩),
   (7, ⟨(some 15), .mv (.t 105), none, []⟩)])
  (.seq (.block 4 (.loop (.seq (.seq (.opsd [(0, ⟨(some 106), .mv (.t 14), none, []⟩),
   (1, ⟨(some 107), .bin .geq (.t 106) (.c (.i .i64 1000000000)), none, []⟩),
   (2, ⟨(some 108), .mv (.t 107), none, []⟩),
   (3, ⟨(some 109), .mv (.t 14), some (108, false), []⟩),
   (4, ⟨(some 110), .mv (.t 8), some (108, false), []⟩),
   (5, ⟨(some 111), .mv (.t 9), some (108, false), []⟩),
   (6, ⟨(some 112), .bin .sub (.t 111) (.c (.i .i64 2)), some (108, false), []⟩),
   (7, ⟨(some 113), .iad 1 (.t 110) (.t 112), some (108, false), []⟩),
   (8, ⟨(some 114), .ld none (.t 113), some (108, false), []⟩),
   (9, ⟨(some 115), .bin .mul (.t 109) (.t 114), some (108, false), []⟩),
   (10, ⟨(some 116), .mv (.t 15), some (108, false), []⟩),
   (11, ⟨(some 117), .bin .mul (.t 116) (.c (.i .i64 1000000000)), some (108, false), []⟩),
   (12, ⟨(some 118), .mv (.t 7), some (108, false), []⟩),
   (13, ⟨(some 119), .mv (.t 12), some (108, false), []⟩),
   (14, ⟨(some 120), .mv (.t 9), some (108, false), []⟩),
   (15, ⟨(some 121), .bin .add (.t 119) (.t 120), some (108, false), []⟩),
   (16, ⟨(some 122), .bin .sub (.t 121) (.c (.i .i64 2)), some (108, false), []⟩),
   (17, ⟨(some 123), .iad 1 (.t 118) (.t 122), some (108, false), []⟩),
   (18, ⟨(some 124), .ld none (.t 123), some (108, false), []⟩),
   (19, ⟨(some 125), .bin .add (.t 117) (.t 124), some (108, false), []⟩),
   (20, ⟨(some 126), .bin .gtr (.t 115) (.t 125), some (108, false), []⟩),
   (21, ⟨(some 127), .pick (.t 108) (.c (.b true)) (.t 126), none, []⟩)])
  (.cond (.t 127)
  (.skip)
  (.exit 4)))
  (.block 5 (.seq (.ops [⟨(some 128), .mv (.t 14), none, []⟩,
   ⟨(some 129), .bin .sub (.t 128) (.c (.i .i64 1)), none, []⟩,
   ⟨(some 14), .mv (.t 129), none, []⟩])
  (.seq (.ops [⟨(some 130), .mv (.t 15), none, []⟩,
   ⟨(some 131), .mv (.t 11), none, []⟩,
   ⟨(some 132), .bin .add (.t 130) (.t 131), none, []⟩,
   ⟨(some 15), .mv (.t 132), none, []⟩])
  (.seq (.ops [⟨(some 133), .mv (.t 15), none, []⟩,
   ⟨(some 134), .bin .geq (.t 133) (.c (.i .i64 1000000000)), none, []⟩])
  (.cond (.t 134)
  (.exit 4)
  (.skip)))))))))
  (.seq (.ops [⟨(some 16), .mv (.c (.i .i64 0)), none, []⟩])
  (.seq (.seq (.ops [⟨(some 135), .mv (.t 9), none, []⟩,
   ⟨(some 136), .mv (.c (.i .i64 0)), none, []⟩])
  (.block 6 (.loop (.seq (.ops [⟨(some 137), .bin .lss (.t 136) (.t 135), none, []⟩])
  (.seq (.cond (.t 137)
  (.skip)
  (.exit 6))
  (.seq (.block 7 (.seq (.ops [⟨(some 138), .mv (.t 136), none, []⟩,
   ⟨(some 17), .mv (.t 138), none, []⟩])
  (.seq (.opsd [(0, ⟨(some 139), .mv (.t 7), none, []⟩),
   (1, ⟨(some 140), .mv (.t 12), none, []⟩),
   (2, ⟨(some 141), .mv (.t 17), none, []⟩),
   (3, ⟨(some 142), .bin .add (.t 140) (.t 141), none, []⟩),
   (4, ⟨(some 143), .iad 1 (.t 139) (.t 142), none, []⟩),
   (5, ⟨(some 144), .ld none (.t 143), none, []⟩),
   (6, ⟨(some 145), .mv (.t 14), none, []⟩),
   (7, ⟨(some 146), .mv (.t 8), none, []⟩),
   (8, ⟨(some 147), .mv (.t 17), none, []⟩),
   (9, ⟨(some 148), .iad 1 (.t 146) (.t 147), none, []⟩),
   (10, ⟨(some 149), .ld none (.t 148), none, []⟩),
   (11, ⟨(some 150), .bin .mul (.t 145) (.t 149), none, []⟩),
   (12, ⟨(some 151), .bin .sub (.t 144) (.t 150), none, []⟩),
   (13, ⟨(some 152), .mv (.t 16), none, []⟩),
   (14, ⟨(some 153), .bin .sub (.t 151) (.t 152), none, []⟩),
   (15, ⟨(some 18), .mv (.t 153), none, []⟩)])
  (.seq (.ops [⟨(some 16), .mv (.c (.i .i64 0)), none, []⟩])
  (.seq (.seq (.ops [⟨(some 154), .mv (.t 18), none, []⟩,
   ⟨(some 155), .bin .lss (.t 154) (.c (.i .i64 0)), none, []⟩])
  (.cond (.t 155)
  (.seq (.ops [⟨(some 156), .mv (.t 18), none, []⟩,
    ⟨(some 157), .bin .sub (.c (.i .i64 999999999)) (.t 156), none, []⟩,
    ⟨(some 158), .bin .quo (.t 157) (.c (.i .i64 1000000000)), none, []⟩,
    ⟨(some 16), .mv (.t 158), none, []⟩])
   (.ops [⟨(some 159), .mv (.t 18), none, []⟩,
    ⟨(some 160), .mv (.t 16), none, []⟩,
    ⟨(some 161), .bin .mul (.t 160) (.c (.i .i64 1000000000)), none, []⟩,
    ⟨(some 162), .bin .add (.t 159) (.t 161), none, []⟩,
    ⟨(some 18), .mv (.t 162), none, []⟩]))
  (.skip)))
  (.ops [⟨(some 163), .mv (.t 7), none, []⟩,
   ⟨(some 164), .mv (.t 12), none, []⟩,
   ⟨(some 165), .mv (.t 17), none, []⟩,
   ⟨(some 166), .bin .add (.t 164) (.t 165), none, []⟩,
   ⟨(some 167), .mv (.t 18), none, []⟩,
   ⟨(some 168), .iad 1 (.t 163) (.t 166), none, []⟩,
   ⟨none, .st none (.t 168) (.t 167), none, []⟩]))))))
  (.ops [⟨(some 169), .bin .add (.t 136) (.c (.i .i64 1)), none, []⟩,
   ⟨(some 136), .mv (.t 169), none, []⟩])))))))
  (.seq (.ops [⟨(some 170), .mv (.t 7), none, []⟩,
   ⟨(some 171), .mv (.t 12), none, []⟩,
   ⟨(some 172), .mv (.t 9), none, []⟩,
   ⟨(some 173), .bin .add (.t 171) (.t 172), none, []⟩,
   ⟨(some 174), .iad 1 (.t 170) (.t 173), none, []⟩,
   ⟨(some 175), .ld none (.t 174), none, []⟩,
   ⟨(some 176), .mv (.t 16), none, []⟩,
   ⟨(some 177), .bin .sub (.t 175) (.t 176), none, []⟩,
   ⟨(some 178), .iad 1 (.t 170) (.t 173), none, []⟩,
   ⟨none, .st none (.t 178) (.t 177), none, []⟩])
  (.seq (.seq (.ops [⟨(some 179), .mv (.t 7), none, []⟩,
   ⟨(some 180), .mv (.t 12), none, []⟩,
   ⟨(some 181), .mv (.t 9), none, []⟩,
   ⟨(some 182), .bin .add (.t 180) (.t 181), none, []⟩,
   ⟨(some 183), .iad 1 (.t 179) (.t 182), none, []⟩,
   ⟨(some 184), .ld none (.t 183), none, []⟩,
   ⟨(some 185), .bin .lss (.t 184) (.c (.i .i64 0)), none, []⟩])
  (.cond (.t 185)
  (.seq (.ops [⟨(some 186), .mv (.t 14), none, []⟩,
    ⟨(some 187), .bin .sub (.t 186) (.c (.i .i64 1)), none, []⟩,
    ⟨(some 14), .mv (.t 187), none, []⟩])
   (.seq (.ops [⟨(some 19), .mv (.c (.i .i64 0)), none, []⟩])
   (.seq (.seq (.ops [⟨(some 188), .mv (.t 9), none, []⟩,
    ⟨(some 189), .mv (.c (.i .i64 0)), none, []⟩])
   (.block 8 (.loop (.seq (.ops [⟨(some 190), .bin .lss (.t 189) (.t 188), none, []⟩])
   (.seq (.cond (.t 190)
   (.skip)
   (.exit 8))
   (.seq (.block 9 (.seq (.ops [⟨(some 191), .mv (.t 189), none, []⟩,
    ⟨(some 20), .mv (.t 191), none, []⟩])
   (.seq (.opsd [(0, ⟨(some 192), .mv (.t 7), none, []⟩),
    (1, ⟨(some 193), .mv (.t 12), none, []⟩),
    (2, ⟨(some 194), .mv (.t 20), none, []⟩),
    (3, ⟨(some 195), .bin .add (.t 193) (.t 194), none, []⟩),
    (4, ⟨(some 196), .iad 1 (.t 192) (.t 195), none, []⟩),
    (5, ⟨(some 197), .ld none (.t 196), none, []⟩),
    (6, ⟨(some 198), .mv (.t 8), none, []⟩),
    (7, ⟨(some 199), .mv (.t 20), none, []⟩),
    (8, ⟨(some 200), .iad 1 (.t 198) (.t 199), none, []⟩),
    (9, ⟨(some 201), .ld none (.t 200), none, []⟩),
    (10, ⟨(some 202), .bin .add (.t 197) (.t 201), none, []⟩),
    (11, ⟨(some 203), .mv (.t 19), none, []⟩),
    (12, ⟨(some 204), .bin .add (.t 202) (.t 203), none, []⟩),
    (13, ⟨(some 21), .mv (.t 204), none, []⟩)])
   (.seq (.ops [⟨(some 19), .mv (.c (.i .i64 0)), none, []⟩])
   (.seq (.seq (.ops [⟨(some 205), .mv (.t 21), none, []⟩,
    ⟨(some 206), .bin .geq (.t 205) (.c (.i .i64 1000000000)), none, []⟩])
   (.cond (.t 206)
   (.seq (.ops [⟨(some 207), .mv (.t 21), none, []⟩,
     ⟨(some 208), .bin .sub (.t 207) (.c (.i .i64 1000000000)), none, []⟩,
     ⟨(some 21), .mv (.t 208), none, []⟩])
    (.ops [⟨(some 19), .mv (.c (.i .i64 1)), none, []⟩]))
   (.skip)))
   (.ops [⟨(some 209), .mv (.t 7), none, []⟩,
    ⟨(some 210), .mv (.t 12), none, []⟩,
    ⟨(some 211), .mv (.t 20), none, []⟩,
    ⟨(some 212), .bin .add (.t 210) (.t 211), none, []⟩,
    ⟨(some 213), .mv (.t 21), none, []⟩,
    ⟨(some 214), .iad 1 (.t 209) (.t 212), none, []⟩,
    ⟨none, .st none (.t 214) (.t 213), none, []⟩]))))))
   (.ops [⟨(some 215), .bin .add (.t 189) (.c (.i .i64 1)), none, []⟩,
    ⟨(some 189), .mv (.t 215), none, []⟩])))))))
   (.ops [⟨(some 216), .mv (.t 7), none, []⟩,
    ⟨(some 217), .mv (.t 12), none, []⟩,
    ⟨(some 218), .mv (.t 9), none, []⟩,
    ⟨(some 219), .bin .add (.t 217) (.t 218), none, []⟩,
    ⟨(some 220), .iad 1 (.t 216) (.t 219), none, []⟩,
    ⟨(some 221), .ld none (.t 220), none, []⟩,
    ⟨(some 222), .mv (.t 19), none, []⟩,
    ⟨(some 223), .bin .add (.t 221) (.t 222), none, []⟩,
    ⟨(some 224), .iad 1 (.t 216) (.t 219), none, []⟩,
    ⟨none, .st none (.t 224) (.t 223), none, []⟩]))))
  (.skip)))
  (.ops [⟨(some 225), .mv (.t 10), none, []⟩,
   ⟨(some 226), .mv (.t 12), none, []⟩,
   ⟨(some 227), .mv (.t 14), none, []⟩,
   ⟨(some 228), .iad 1 (.t 225) (.t 226), none, []⟩,
   ⟨none, .st none (.t 228) (.t 227), none, []⟩])))))))))
  (.ops [⟨(some 83), .mv (.t 12), none, []⟩,
   ⟨(some 84), .bin .sub (.t 83) (.c (.i .i64 1)), none, []⟩,
   ⟨(some 12), .mv (.t 84), none, []⟩]))))))
  (.seq (.ops [⟨(some 230), .mv (.t 7), none, []⟩,
   ⟨(some 231), .call true n_impl_trim [(.t 230)], none, []⟩,
   ⟨(some 232), .mv (.t 6), none, []⟩,
   ⟨(some 233), .call true n_impl_divSmall [(.t 231), (.t 232)], none, []⟩,
   ⟨(some 229), .mv (.t 233), none, []⟩,
   ⟨(some 234), .ext 0 (.t 229), none, []⟩,
   ⟨(some 235), .ext 1 (.t 229), none, []⟩,
   ⟨(some 22), .mv (.t 234), none, []⟩,
   ⟨(some 23), .mv (.t 235), none, []⟩])
  (.seq (.ops [⟨(some 236), .mv (.t 10), none, []⟩,
   ⟨(some 237), .call true n_impl_trim [(.t 236)], none, []⟩,
   ⟨(some 238), .mv (.t 22), none, []⟩,
   ⟨(some 4), .mv (.t 237), none, []⟩,
   ⟨(some 5), .mv (.t 238), none, []⟩])
  (.ret))))))))))))), [.t 4, .t 5]⟩
def K_impl_natDiv (P : Program) (f : Nat) : Prop := ∀ a b : Nat, 0 < b → (limbs a).length ≤ 190 → (limbs b).length ≤ 190 → FCI2 P f [ints (limbs a), ints (limbs b)] (limbs (a / b)) (limbs (a % b))
theorem t_impl_natDiv {P : Program} {f n_impl_natCmp n_impl_copyInts n_impl_divSmall n_impl_natMul n_impl_trim : Nat} (h : Has P f (c_impl_natDiv n_impl_natCmp n_impl_copyInts n_impl_divSmall n_impl_natMul n_impl_trim)) (k_impl_natCmp : K_impl_natCmp P n_impl_natCmp) (k_impl_copyInts : K_impl_copyInts P n_impl_copyInts) (k_impl_divSmall : K_impl_divSmall P n_impl_divSmall) (k_impl_natMul : K_impl_natMul P n_impl_natMul) (k_impl_trim : K_impl_trim P n_impl_trim) : K_impl_natDiv P f := by
  intro a b hb hla hlb
  refine pc_go h (by simp) ?_
  have da := limbs_dig a
  have db := limbs_dig b
  refine go_hold fun R1 hR1 => ?_
  simp -implicitDefEqProofs (disch := omega) only [↓walk, plain, List.length_map, List.getElem?_map, Option.map_some, Nat.reduceBEq, decT, decF, iteT, iteF, wrap_ok, Int.reduceToNat, Int.reduceLE, Int.reduceLT, Int.reduceAdd, Int.reduceSub, Int.reduceNeg, reduceIte, Nat.reduceEqDiff, Nat.reduceAdd, Nat.reduceSub, Nat.reduceMul, Nat.reduceLeDiff, Nat.reduceShiftRight, Nat.reduceMod, reduceCtorEq]
  subst hR1
  refine go_hold fun R2 hR2 => ?_
  simp -implicitDefEqProofs (disch := omega) only [↓walk, plain, List.length_map, List.getElem?_map, Option.map_some, Nat.reduceBEq, decT, decF, iteT, iteF, wrap_ok, Int.reduceToNat, Int.reduceLE, Int.reduceLT, Int.reduceAdd, Int.reduceSub, Int.reduceNeg, reduceIte, Nat.reduceEqDiff, Nat.reduceAdd, Nat.reduceSub, Nat.reduceMul, Nat.reduceLeDiff, Nat.reduceShiftRight, Nat.reduceMod, reduceCtorEq]
  refine goCall_sc (k_impl_natCmp a b (by omega) (by omega)) (by repeat (first | exact vws_nil | refine vws_cons ?_ ?_ | exact vw_bb | exact vw_ii | exact vw_ss | exact vw_ints | exact vw_ints0 | exact vw_nn | exact vw_n0 | exact vwl_nil | refine vwl_cons ?_ ?_ | refine vw_agg ?_ | refine vw_fn ?_ | assumption)) ?_
  by_cases hab : a < b
  · have hc := cmpN_lt0.2 hab
    simp -implicitDefEqProofs (disch := omega) only [↓walk, plain, List.length_map, List.getElem?_map, Option.map_some, Nat.reduceBEq, decT, decF, iteT, iteF, wrap_ok, Int.reduceToNat, Int.reduceLE, Int.reduceLT, Int.reduceAdd, Int.reduceSub, Int.reduceNeg, reduceIte, Nat.reduceEqDiff, Nat.reduceAdd, Nat.reduceSub, Nat.reduceMul, Nat.reduceLeDiff, Nat.reduceShiftRight, Nat.reduceMod, reduceCtorEq]
    refine goCall_fc (OCI.fc (k_impl_copyInts (limbs a) (by omega))) (by repeat (first | exact vws_nil | refine vws_cons ?_ ?_ | exact vw_bb | exact vw_ii | exact vw_ss | exact vw_ints | exact vw_ints0 | exact vw_nn | exact vw_n0 | exact vwl_nil | refine vwl_cons ?_ ?_ | refine vw_agg ?_ | refine vw_fn ?_ | assumption)) ?_
    simp -implicitDefEqProofs (disch := omega) only [↓walk, plain, List.length_map, List.getElem?_map, Option.map_some, Nat.reduceBEq, decT, decF, iteT, iteF, wrap_ok, Int.reduceToNat, Int.reduceLE, Int.reduceLT, Int.reduceAdd, Int.reduceSub, Int.reduceNeg, reduceIte, Nat.reduceEqDiff, Nat.reduceAdd, Nat.reduceSub, Nat.reduceMul, Nat.reduceLeDiff, Nat.reduceShiftRight, Nat.reduceMod, reduceCtorEq]
    rw [Nat.div_eq_of_lt hab, Nat.mod_eq_of_lt hab, limbs_zero]
    exact data_ints2 (t1 := 0) (t2 := 10) (fz_ints_nl rfl) (fz_ints_sl rfl) (by omega)
  have hc : ¬ (cmpN a b < 0) := fun h => hab (cmpN_lt0.1 h)
  simp -implicitDefEqProofs (disch := omega) only [↓walk, plain, List.length_map, List.getElem?_map, Option.map_some, Nat.reduceBEq, decT, decF, iteT, iteF, wrap_ok, Int.reduceToNat, Int.reduceLE, Int.reduceLT, Int.reduceAdd, Int.reduceSub, Int.reduceNeg, reduceIte, Nat.reduceEqDiff, Nat.reduceAdd, Nat.reduceSub, Nat.reduceMul, Nat.reduceLeDiff, Nat.reduceShiftRight, Nat.reduceMod, reduceCtorEq]
  subst hR2
  refine go_hold fun R3 hR3 => ?_
  simp -implicitDefEqProofs (disch := omega) only [↓walk, plain, List.length_map, List.getElem?_map, Option.map_some, Nat.reduceBEq, iteT, iteF, wrap_ok, Int.reduceToNat, Int.reduceLE, Int.reduceLT, Int.reduceAdd, Int.reduceSub, Int.reduceNeg, reduceIte, Nat.reduceEqDiff, Nat.reduceAdd, Nat.reduceSub, Nat.reduceMul, Nat.reduceLeDiff, Nat.reduceShiftRight, Nat.reduceMod, reduceCtorEq, ints]
  refine goC_dec (fun h1 => ?_) (fun h1 => ?_)
  · have hb1 : b < 1000000000 := by
      have := limbs_len_lt.1 (show (limbs b).length ≤ 1 by omega)
      simp only [pw] at this; omega
    simp -implicitDefEqProofs (disch := omega) only [↓walk, plain, List.length_map, List.getElem?_map, Option.map_some, Nat.reduceBEq, decT, decF, iteT, iteF, wrap_ok, Int.reduceToNat, Int.reduceLE, Int.reduceLT, Int.reduceAdd, Int.reduceSub, Int.reduceNeg, reduceIte, Nat.reduceEqDiff, Nat.reduceAdd, Nat.reduceSub, Nat.reduceMul, Nat.reduceLeDiff, Nat.reduceShiftRight, Nat.reduceMod, reduceCtorEq, ints, limbs_small (n := b) (by omega) hb1, List.map_cons, List.map_nil]
    refine goCall_fc (k_impl_divSmall a b hb hb1 (by omega)) (by repeat (first | exact vws_nil | refine vws_cons ?_ ?_ | exact vw_bb | exact vw_ii | exact vw_ss | exact vw_ints | exact vw_ints0 | exact vw_nn | exact vw_n0 | exact vwl_nil | refine vwl_cons ?_ ?_ | refine vw_agg ?_ | refine vw_fn ?_ | assumption)) ?_
    simp -implicitDefEqProofs (disch := omega) only [↓walk, plain, List.length_map, List.getElem?_map, Option.map_some, Nat.reduceBEq, decT, decF, iteT, iteF, wrap_ok, Int.reduceToNat, Int.reduceLE, Int.reduceLT, Int.reduceAdd, Int.reduceSub, Int.reduceNeg, reduceIte, Nat.reduceEqDiff, Nat.reduceAdd, Nat.reduceSub, Nat.reduceMul, Nat.reduceLeDiff, Nat.reduceShiftRight, Nat.reduceMod, reduceCtorEq]
    exact data_ints2 (fz_ints_sl rfl) (fz_ints_sl rfl) (by omega)
  simp -implicitDefEqProofs (disch := omega) only [↓walk, plain, List.length_map, List.getElem?_map, Option.map_some, Nat.reduceBEq, decT, decF, iteT, iteF, wrap_ok, Int.reduceToNat, Int.reduceLE, Int.reduceLT, Int.reduceAdd, Int.reduceSub, Int.reduceNeg, reduceIte, Nat.reduceEqDiff, Nat.reduceAdd, Nat.reduceSub, Nat.reduceMul, Nat.reduceLeDiff, Nat.reduceShiftRight, Nat.reduceMod, reduceCtorEq]
  subst hR3
  have hlb0 : 0 < (limbs b).length := List.length_pos_iff.2 fun e => by have := limbs_nil.1 e; omega
  obtain ⟨M, hM⟩ : ∃ M, (limbs b).length = M + 2 := ⟨(limbs b).length - 2, by omega⟩
  have hlab : (limbs b).length ≤ (limbs a).length := limbs_len_mono (by omega)
  obtain ⟨t, ht, ht1, ht2, ht3, ht4⟩ := last_of hb
  obtain ⟨f1, f2, f3⟩ := norm_top ht1 ht2 rfl
  obtain ⟨ff, hff⟩ : ∃ ff : Nat, (ff : Int) = 1000000000 / (t + 1) := ⟨(1000000000 / (t + 1)).toNat, by omega⟩
  rw [← hff] at f1 f2 f3
  have e1 : ((limbs b).length : Int) - 1 = (((limbs b).length - 1 : Nat) : Int) := by omega
  have e2 : Int.tdiv 1000000000 (t + 1) = (ff : Int) := by rw [hff, Int.tdiv_eq_ediv_of_nonneg (by omega)]
  have hff1 : ff < 1000000000 := by
    have : (ff : Int) * 2 ≤ ff * (t + 1) := Int.mul_le_mul_of_nonneg_left (by omega) (by omega)
    omega
  obtain ⟨hly, s, hs, hs2⟩ := scale hb ht ht1 ht3 ht4 (by omega) f2 f3
  have dy := limbs_dig (b * ff)
  have lff : limbs ff = [(ff : Int)] := limbs_small (by omega) hff1
  have llff : (limbs ff).length ≤ 1 := by rw [lff]; simp
  refine go_hold fun R4 hR4 => ?_
  simp -implicitDefEqProofs (disch := omega) only [↓walk, plain, List.length_map, List.getElem?_map, Option.map_some, Nat.reduceBEq, decT, decF, iteT, iteF, wrap_ok, Int.reduceToNat, Int.reduceLE, Int.reduceLT, Int.reduceAdd, Int.reduceSub, Int.reduceNeg, reduceIte, Nat.reduceEqDiff, Nat.reduceAdd, Nat.reduceSub, Nat.reduceMul, Nat.reduceLeDiff, Nat.reduceShiftRight, Nat.reduceMod, reduceCtorEq, ints, e1, ht, e2]
  subst hR4
  refine go_hold fun R5 hR5 => ?_
  simp -implicitDefEqProofs (disch := omega) only [↓walk, plain, List.length_map, List.getElem?_map, Option.map_some, Nat.reduceBEq, decT, decF, iteT, iteF, wrap_ok, Int.reduceToNat, Int.reduceLE, Int.reduceLT, Int.reduceAdd, Int.reduceSub, Int.reduceNeg, reduceIte, Nat.reduceEqDiff, Nat.reduceAdd, Nat.reduceSub, Nat.reduceMul, Nat.reduceLeDiff, Nat.reduceShiftRight, Nat.reduceMod, reduceCtorEq]
  refine goCall_mc0 ((k_impl_natMul a ff (by omega) (by omega)).at (vws_cons vw_ints (vws_cons (vw_rf_ints (xs := limbs ff) (by simp -implicitDefEqProofs (disch := omega) only [↓walk, plain, List.length_map, List.getElem?_map, Option.map_some, Nat.reduceBEq, decT, decF, iteT, iteF, wrap_ok, Int.reduceToNat, Int.reduceLE, Int.reduceLT, Int.reduceAdd, Int.reduceSub, Int.reduceNeg, reduceIte, Nat.reduceEqDiff, Nat.reduceAdd, Nat.reduceSub, Nat.reduceMul, Nat.reduceLeDiff, Nat.reduceShiftRight, Nat.reduceMod, reduceCtorEq]; rfl) trivial (by rw [lff]; rfl) (by rw [lff]; rfl)) vws_nil))) ?_
  rintro v H1 n1 ⟨hn1, ⟨-, hg⟩, hlt⟩
  have hlaf : (limbs (a * ff)).length ≤ (limbs a).length + 1 := limbs_mul_len (Nat.le_refl _) llff
  have hlaf2 : (limbs a).length ≤ (limbs (a * ff)).length := limbs_len_mono (Nat.le_mul_of_pos_right a (by omega))
  obtain ⟨T, hT, rfl, hHT⟩ := hg.resolve_left (fun hh => by have := congrArg List.length hh.1; simp only [List.length_nil] at this; omega)
  have hT2 := hlt T 0 _ rfl
  simp -implicitDefEqProofs (disch := omega) only [↓walk, plain, List.length_map, List.getElem?_map, Option.map_some, Nat.reduceBEq, decT, decF, iteT, iteF, wrap_ok, Int.reduceToNat, Int.reduceLE, Int.reduceLT, Int.reduceAdd, Int.reduceSub, Int.reduceNeg, reduceIte, Nat.reduceEqDiff, Nat.reduceAdd, Nat.reduceSub, Nat.reduceMul, Nat.reduceLeDiff, Nat.reduceShiftRight, Nat.reduceMod, reduceCtorEq]
  subst hR5
  refine go_hold fun R6 hR6 => ?_
  simp -implicitDefEqProofs (disch := omega) only [↓walk, plain, List.length_map, List.getElem?_map, Option.map_some, Nat.reduceBEq, decT, decF, iteT, iteF, wrap_ok, Int.reduceToNat, Int.reduceLE, Int.reduceLT, Int.reduceAdd, Int.reduceSub, Int.reduceNeg, reduceIte, Nat.reduceEqDiff, Nat.reduceAdd, Nat.reduceSub, Nat.reduceMul, Nat.reduceLeDiff, Nat.reduceShiftRight, Nat.reduceMod, reduceCtorEq]
  refine goCall_fc (OCI.fc (k_impl_natMul b ff (by omega) (by omega))) (vws_cons vw_ints (vws_cons (vw_rf_ints (xs := limbs ff) (by simp -implicitDefEqProofs (disch := omega) only [↓walk, plain, List.length_map, List.getElem?_map, Option.map_some, Nat.reduceBEq, decT, decF, iteT, iteF, wrap_ok, Int.reduceToNat, Int.reduceLE, Int.reduceLT, Int.reduceAdd, Int.reduceSub, Int.reduceNeg, reduceIte, Nat.reduceEqDiff, Nat.reduceAdd, Nat.reduceSub, Nat.reduceMul, Nat.reduceLeDiff, Nat.reduceShiftRight, Nat.reduceMod, reduceCtorEq]; rfl) trivial (by rw [lff]; rfl) (by rw [lff]; rfl)) vws_nil)) ?_
  simp -implicitDefEqProofs (disch := omega) only [↓walk, plain, List.length_map, List.getElem?_map, Option.map_some, Nat.reduceBEq, decT, decF, iteT, iteF, wrap_ok, Int.reduceToNat, Int.reduceLE, Int.reduceLT, Int.reduceAdd, Int.reduceSub, Int.reduceNeg, reduceIte, Nat.reduceEqDiff, Nat.reduceAdd, Nat.reduceSub, Nat.reduceMul, Nat.reduceLeDiff, Nat.reduceShiftRight, Nat.reduceMod, reduceCtorEq]
  subst hR6
  refine go_hold fun R7 hR7 => ?_
  simp -implicitDefEqProofs (disch := omega) only [↓walk, plain, List.length_map, List.getElem?_map, Option.map_some, Nat.reduceBEq, decT, decF, iteT, iteF, wrap_ok, Int.reduceToNat, Int.reduceLE, Int.reduceLT, Int.reduceAdd, Int.reduceSub, Int.reduceNeg, reduceIte, Nat.reduceEqDiff, Nat.reduceAdd, Nat.reduceSub, Nat.reduceMul, Nat.reduceLeDiff, Nat.reduceShiftRight, Nat.reduceMod, reduceCtorEq]
  subst hR7
  refine go_cut 73498745918686494848 (by first | rfl | (simp only [mods, modsL, modsD, optB]; rfl)) (fun fr H n => ∃ (T : Nat) (xs : List Int), T < n ∧ fr 7 = .rf T 0 xs.length ∧ H T = some (1, xs.map (.i .i64)) ∧ xs.length = (limbs a).length + 1 ∧ Dig xs ∧ val xs = ((a * ff : Nat) : Int)) ?_ ?_
  · simp -implicitDefEqProofs (disch := omega) only [↓walk, plain, List.length_map, List.getElem?_map, Option.map_some, Nat.reduceBEq, decT, decF, iteT, iteF, wrap_ok, Int.reduceToNat, Int.reduceLE, Int.reduceLT, Int.reduceAdd, Int.reduceSub, Int.reduceNeg, reduceIte, Nat.reduceEqDiff, Nat.reduceAdd, Nat.reduceSub, Nat.reduceMul, Nat.reduceLeDiff, Nat.reduceShiftRight, Nat.reduceMod, reduceCtorEq]
    refine go_loopm 73498745918686494848 (by first | rfl | (simp only [mods, modsL, modsD, optB]; rfl)) (fun k fr H n => ∃ (T : Nat) (xs : List Int), T < n ∧ fr 7 = .rf T 0 xs.length ∧ H T = some (1, xs.map (.i .i64)) ∧ xs.length + k = (limbs a).length + 1 ∧ Dig xs ∧ val xs = ((a * ff : Nat) : Int)) ((limbs a).length + 1 - (limbs (a * ff)).length) ?_ ?_
    · simp -implicitDefEqProofs (disch := omega) only [↓walk, plain, List.length_map, List.getElem?_map, Option.map_some, Nat.reduceBEq, decT, decF, iteT, iteF, wrap_ok, Int.reduceToNat, Int.reduceLE, Int.reduceLT, Int.reduceAdd, Int.reduceSub, Int.reduceNeg, reduceIte, Nat.reduceEqDiff, Nat.reduceAdd, Nat.reduceSub, Nat.reduceMul, Nat.reduceLeDiff, Nat.reduceShiftRight, Nat.reduceMod, reduceCtorEq]
      refine ⟨T, limbs (a * ff), ?_⟩
      (repeat' first | refine And.intro ?_ ?_ | rfl | omega | assumption | exact trivial | (dsimp only; omega))
      · rw [if_neg (by omega)]; exact hHT
      · exact limbs_dig _
      · exact val_limbs _
    · rintro k fr H n ⟨T, xs, h2, f7, hH, hk, hd, hv⟩
      simp -implicitDefEqProofs (disch := omega) only [↓walk, plain, List.length_map, List.getElem?_map, Option.map_some, Nat.reduceBEq, iteT, iteF, wrap_ok, Int.reduceToNat, Int.reduceLE, Int.reduceLT, Int.reduceAdd, Int.reduceSub, Int.reduceNeg, reduceIte, Nat.reduceEqDiff, Nat.reduceAdd, Nat.reduceSub, Nat.reduceMul, Nat.reduceLeDiff, Nat.reduceShiftRight, Nat.reduceMod, reduceCtorEq, f7]
      refine goC_dec (fun h0 => ?_) (fun h0 => ?_)
      · simp -implicitDefEqProofs (disch := omega) only [↓walk, plain, List.length_map, List.getElem?_map, Option.map_some, Nat.reduceBEq, decT, decF, iteT, iteF, wrap_ok, Int.reduceToNat, Int.reduceLE, Int.reduceLT, Int.reduceAdd, Int.reduceSub, Int.reduceNeg, reduceIte, Nat.reduceEqDiff, Nat.reduceAdd, Nat.reduceSub, Nat.reduceMul, Nat.reduceLeDiff, Nat.reduceShiftRight, Nat.reduceMod, reduceCtorEq, f7, hH, List.isEmpty_cons, maxB]
        refine ⟨k - 1, by omega, n + 5 + 1 + 1, xs ++ [0], by omega, by simp, ?_, by simp; omega, hd.snoc (by omega) (by omega), by rw [val_snoc, hv]; omega⟩
        rw [if_pos rfl, List.take_of_length_le (by simp)]; simp
      · simp -implicitDefEqProofs (disch := omega) only [↓walk, plain, List.length_map, List.getElem?_map, Option.map_some, Nat.reduceBEq, decT, decF, iteT, iteF, wrap_ok, Int.reduceToNat, Int.reduceLE, Int.reduceLT, Int.reduceAdd, Int.reduceSub, Int.reduceNeg, reduceIte, Nat.reduceEqDiff, Nat.reduceAdd, Nat.reduceSub, Nat.reduceMul, Nat.reduceLeDiff, Nat.reduceShiftRight, Nat.reduceMod, reduceCtorEq]
        exact ⟨T, xs, by omega, f7, hH, by omega, hd, hv⟩
  clear hHT hT hT2 hlt
  rintro fr8 H8 n8 ⟨T, xs, hT, f7, hHT, hlx, dx, hvx⟩
  have e3 : ((limbs a).length : Int) + 1 - (limbs b).length = (((limbs a).length + 1 - (limbs b).length : Nat) : Int) := by omega
  refine go_cut 2287396265139984401408 (by first | rfl | (simp only [mods, modsL, modsD, optB]; rfl)) (fun fr H n => ∃ TO, TO ≠ T ∧ TO < n ∧ fr 10 = .rf TO 0 ((limbs a).length + 1 - (limbs b).length) ∧ H TO = some (1, (List.replicate ((limbs a).length + 1 - (limbs b).length) (0 : Int)).map (.i .i64)) ∧ H T = some (1, xs.map (.i .i64)) ∧ n8 ≤ n) ?_ ?_
  · simp -implicitDefEqProofs (disch := omega) only [↓walk, plain, List.length_map, List.getElem?_map, Option.map_some, Nat.reduceBEq, decT, decF, iteT, iteF, wrap_ok, Int.reduceToNat, Int.reduceLE, Int.reduceLT, Int.reduceAdd, Int.reduceSub, Int.reduceNeg, reduceIte, Nat.reduceEqDiff, Nat.reduceAdd, Nat.reduceSub, Nat.reduceMul, Nat.reduceLeDiff, Nat.reduceShiftRight, Nat.reduceMod, reduceCtorEq, f7, hly, hlx, rep_map, maxB]
    refine ⟨n8 + 1 + 1 + 1 + 1, ?_⟩
    (repeat' first | refine And.intro ?_ ?_ | rfl | omega | assumption | exact trivial | (dsimp only; omega))
    · congr 1; omega
    · rw [if_pos rfl, show (((limbs a).length + 1 : Nat) : Int) - (limbs b).length = (((limbs a).length + 1 - (limbs b).length : Nat) : Int) by omega, Int.toNat_natCast]
  rintro fr10 H10 n10 ⟨TO, hTO, hTOn, f10, hHO, hHT, hn10⟩
  have eN : ((M : Int) + 2) - 1 = ((M + 1 : Nat) : Int) := by omega
  have eN2 : ((M : Int) + 2) - 2 = (M : Int) := by omega
  have hs' : (limbs (b * ff))[M + 1]? = some s := by rw [← hs, hM]; rfl
  obtain ⟨v2, hv2⟩ := getc (xs := limbs (b * ff)) (i := M) (by omega)
  have hlY : (limbs (b * ff)).length = M + 2 := by omega
  have bs := dy.at hs'
  have bv := dy.at hv2
  refine go_hold fun R8 hR8 => ?_
  have eM : ((M + 2 : Nat) : Int) - 1 = ((M + 1 : Nat) : Int) := by omega
  simp -implicitDefEqProofs (disch := omega) only [↓walk, plain, List.length_map, List.getElem?_map, Option.map_some, Nat.reduceBEq, decT, decF, iteT, iteF, wrap_ok, Int.reduceToNat, Int.reduceLE, Int.reduceLT, Int.reduceAdd, Int.reduceSub, Int.reduceNeg, reduceIte, Nat.reduceEqDiff, Nat.reduceAdd, Nat.reduceSub, Nat.reduceMul, Nat.reduceLeDiff, Nat.reduceShiftRight, Nat.reduceMod, reduceCtorEq, hly, hM, eM, hs']
  subst hR8
  have hvY : val (limbs (b * ff)) = ((b * ff : Nat) : Int) := val_limbs _
  refine go_cut 862718293348820473429344482784628181556388621445740455669401208745984 (by first | rfl | (simp only [mods, modsL, modsD, optB]; rfl)) (fun fr H n => ∃ xs2 os : List Int, n10 ≤ n ∧ H T = some (1, xs2.map (.i .i64)) ∧ H TO = some (1, os.map (.i .i64)) ∧ xs2.length = (limbs a).length + 1 ∧ os.length = (limbs a).length + 1 - (limbs b).length ∧ Dig xs2 ∧ Dig os ∧ ((a * ff : Nat) : Int) = val xs2 + val os * val (limbs (b * ff)) ∧ val xs2 < val (limbs (b * ff))) ?_ ?_
  · obtain ⟨D, hD⟩ : ∃ D, (limbs a).length + 1 = D + (M + 2) := ⟨(limbs a).length + 1 - (M + 2), by omega⟩
    have eD : (limbs a).length + 1 - (limbs b).length = D := by omega
    have eD2 : ((xs.length : Nat) : Int) - ((M + 2 : Nat) : Int) - 1 = (D : Int) - 1 := by omega
    have hD1 : 1 ≤ D := by omega
    rw [eD] at hHO f10
    simp -implicitDefEqProofs (disch := omega) only [↓walk, plain, List.length_map, List.getElem?_map, Option.map_some, Nat.reduceBEq, decT, decF, iteT, iteF, wrap_ok, Int.reduceToNat, Int.reduceLE, Int.reduceLT, Int.reduceAdd, Int.reduceSub, Int.reduceNeg, reduceIte, Nat.reduceEqDiff, Nat.reduceAdd, Nat.reduceSub, Nat.reduceMul, Nat.reduceLeDiff, Nat.reduceShiftRight, Nat.reduceMod, reduceCtorEq, f7, hly, hM, eD2]
    refine go_loopm 862718293348820473429344482784628181556388619103446680166057182752768 (by first | rfl | (simp only [mods, modsL, modsD, optB]; rfl)) (fun K fr H n => ∃ xs2 os : List Int, K ≤ D ∧ n10 ≤ n ∧ fr 12 = .i .i64 (K - 1) ∧ H T = some (1, xs2.map (.i .i64)) ∧ H TO = some (1, os.map (.i .i64)) ∧ xs2.length = D + (M + 2) ∧ os.length = D ∧ Dig xs2 ∧ Dig os ∧ (∀ j, j < K → os[j]? = some 0) ∧ ((a * ff : Nat) : Int) = val xs2 + val os * val (limbs (b * ff)) ∧ val xs2 < val (limbs (b * ff)) * pw K) D ?_ ?_
    · simp -implicitDefEqProofs (disch := omega) only [↓walk, plain, List.length_map, List.getElem?_map, Option.map_some, Nat.reduceBEq, decT, decF, iteT, iteF, wrap_ok, Int.reduceToNat, Int.reduceLE, Int.reduceLT, Int.reduceAdd, Int.reduceSub, Int.reduceNeg, reduceIte, Nat.reduceEqDiff, Nat.reduceAdd, Nat.reduceSub, Nat.reduceMul, Nat.reduceLeDiff, Nat.reduceShiftRight, Nat.reduceMod, reduceCtorEq]
      refine ⟨xs, List.replicate D 0, ?_⟩
      (repeat' first | refine And.intro ?_ ?_ | rfl | omega | assumption | exact trivial | (dsimp only; omega))
      · simp
      · exact Dig.replicate _
      · intro j hj; rw [List.getElem?_replicate, if_pos hj]
      · rw [val_replicate, hvx]; omega
      · rw [hvx, hvY, Int.natCast_mul, Int.natCast_mul]
        have g1 := limbs_len_lt.1 (Nat.le_refl (limbs a).length)
        have g2 : pw D * pw (M + 1) = pw (limbs a).length := by rw [← pw_add]; congr 1; omega
        have g3 := ge_of_top (limbs_dig b) (limbs_top b) (by intro e; rw [e] at hM; simp at hM)
        rw [hM, val_limbs] at g3
        have g4 : pw (M + 1) * pw D ≤ (b : Int) * pw D := Int.mul_le_mul_of_nonneg_right (by simpa using g3) (Int.le_of_lt (pw_pos D))
        have g5 : (a : Int) < b * pw D := by
          have : pw (M + 1) * pw D = pw D * pw (M + 1) := Int.mul_comm _ _
          omega
        have g6 := Int.mul_lt_mul_of_pos_right g5 (show (0 : Int) < ff by omega)
        have : (b : Int) * ff * pw D = b * pw D * ff := by grind
        omega
    · rintro K fr H n ⟨xs2, os, hKD, hn, f12, hH, hHO, hlx2, hlo, dx2, dos, hoz, heq, hlt⟩
      refine go_cut 7253554917687775048237056 (by first | rfl | (simp only [mods, modsL, modsD, optB]; rfl)) (fun fr3 H3 n3 => 1 ≤ K ∧ H3 = H ∧ n ≤ n3) ?_ ?_
      · simp -implicitDefEqProofs (disch := omega) only [↓walk, plain, List.length_map, List.getElem?_map, Option.map_some, Nat.reduceBEq, iteT, iteF, wrap_ok, Int.reduceToNat, Int.reduceLE, Int.reduceLT, Int.reduceAdd, Int.reduceSub, Int.reduceNeg, reduceIte, Nat.reduceEqDiff, Nat.reduceAdd, Nat.reduceSub, Nat.reduceMul, Nat.reduceLeDiff, Nat.reduceShiftRight, Nat.reduceMod, reduceCtorEq, f12]
        refine goC_dec (fun h0 => ?_) (fun h0 => ?_)
        · simp -implicitDefEqProofs (disch := omega) only [↓walk, plain, List.length_map, List.getElem?_map, Option.map_some, Nat.reduceBEq, decT, decF, iteT, iteF, wrap_ok, Int.reduceToNat, Int.reduceLE, Int.reduceLT, Int.reduceAdd, Int.reduceSub, Int.reduceNeg, reduceIte, Nat.reduceEqDiff, Nat.reduceAdd, Nat.reduceSub, Nat.reduceMul, Nat.reduceLeDiff, Nat.reduceShiftRight, Nat.reduceMod, reduceCtorEq]
          omega
        · have : K = 0 := by omega
          subst this
          simp -implicitDefEqProofs (disch := omega) only [↓walk, plain, List.length_map, List.getElem?_map, Option.map_some, Nat.reduceBEq, decT, decF, iteT, iteF, wrap_ok, Int.reduceToNat, Int.reduceLE, Int.reduceLT, Int.reduceAdd, Int.reduceSub, Int.reduceNeg, reduceIte, Nat.reduceEqDiff, Nat.reduceAdd, Nat.reduceSub, Nat.reduceMul, Nat.reduceLeDiff, Nat.reduceShiftRight, Nat.reduceMod, reduceCtorEq]
          refine ⟨xs2, os, ?_⟩
          (repeat' first | refine And.intro ?_ ?_ | rfl | omega | assumption | exact trivial | (dsimp only; omega))
          · simpa [pw] using hlt
      rintro fr3 H3 n3 ⟨hK1, rfl, hn3⟩
      obtain ⟨k, rfl⟩ : ∃ k, K = k + 1 := ⟨K - 1, by omega⟩
      rw [go_seq, go_block]
      obtain ⟨d1, h1⟩ := getc (xs := xs2) (i := k + M + 2) (by omega)
      obtain ⟨d2, h2⟩ := getc (xs := xs2) (i := k + M + 1) (by omega)
      obtain ⟨d3, h3⟩ := getc (xs := xs2) (i := k + M) (by omega)
      have b1 := dx2.at h1
      have b2 := dx2.at h2
      have b3 := dx2.at h3
      obtain ⟨est, hz⟩ := est_of dx2 dy hlY (by omega) h1 h2 h3 hs' hv2 hs2 hlt
      obtain ⟨qt, hqt⟩ : ∃ qt, qt = val (xs2.drop k) / val (limbs (b * ff)) := ⟨_, rfl⟩
      rw [← hqt] at est
      have k1 : (k : Int) + ((M + 2 : Nat) : Int) = ((k + M + 2 : Nat) : Int) := by omega
      have k2 : ((k + M + 2 : Nat) : Int) - 1 = ((k + M + 1 : Nat) : Int) := by omega
      have k3 : ((k + M + 2 : Nat) : Int) - 2 = ((k + M : Nat) : Int) := by omega
      have k4 : (((k + 1 : Nat) : Int) - 1) = (k : Int) := by omega
      rw [k4] at f12
      refine go_hold fun R9 hR9 => ?_
      simp -implicitDefEqProofs (disch := omega) only [↓walk, plain, List.length_map, List.getElem?_map, Option.map_some, Nat.reduceBEq, decT, decF, iteT, iteF, wrap_ok, Int.reduceToNat, Int.reduceLE, Int.reduceLT, Int.reduceAdd, Int.reduceSub, Int.reduceNeg, reduceIte, Nat.reduceEqDiff, Nat.reduceAdd, Nat.reduceSub, Nat.reduceMul, Nat.reduceLeDiff, Nat.reduceShiftRight, Nat.reduceMod, reduceCtorEq, f7, f12, hly, hM, k1, k2, hH, h1, h2]
      subst hR9
      have t0 : 0 ≤ d1 * 1000000000 + d2 := by omega
      have q1 : Int.tdiv (d1 * 1000000000 + d2) s = (d1 * 1000000000 + d2) / s := Int.tdiv_eq_ediv_of_nonneg t0
      have q2 : Int.tmod (d1 * 1000000000 + d2) s = (d1 * 1000000000 + d2) % s := Int.tmod_eq_emod_of_nonneg t0
      have m1 := Int.emod_nonneg (d1 * 1000000000 + d2) (show s ≠ 0 by omega)
      have m2 := Int.emod_lt_of_pos (d1 * 1000000000 + d2) (show 0 < s by omega)
      have m3 := Int.ediv_mul_add_emod (d1 * 1000000000 + d2) s
      obtain ⟨es1, es2⟩ := est.first
      have m4 : qt ≤ (d1 * 1000000000 + d2) / s := by rw [Int.le_ediv_iff_mul_le (by omega)]; exact es1
      have m5 : (d1 * 1000000000 + d2) / s < 1000000000 + 2 := by rw [Int.ediv_lt_iff_lt_mul (by omega)]; exact es2
      have m6 := est.q0
      refine go_hold fun R10 hR10 => ?_
      simp -implicitDefEqProofs (disch := omega) only [↓walk, plain, List.length_map, List.getElem?_map, Option.map_some, Nat.reduceBEq, decT, decF, iteT, iteF, wrap_ok, Int.reduceToNat, Int.reduceLE, Int.reduceLT, Int.reduceAdd, Int.reduceSub, Int.reduceNeg, reduceIte, Nat.reduceEqDiff, Nat.reduceAdd, Nat.reduceSub, Nat.reduceMul, Nat.reduceLeDiff, Nat.reduceShiftRight, Nat.reduceMod, reduceCtorEq, q1, q2]
      subst hR10
      generalize hq0 : (d1 * 1000000000 + d2) / s = qq at m3 m4 m5
      generalize hr0 : (d1 * 1000000000 + d2) % s = rr at m1 m2 m3
      refine go_cut 43556142884750484908705268055477325971456 (by first | rfl | (simp only [mods, modsL, modsD, optB]; rfl)) (fun fr4 H4 n4 => ∃ q : Int, fr4 14 = .i .i64 q ∧ qt ≤ q ∧ q ≤ qt + 1 ∧ 0 ≤ q ∧ q ≤ 1000000000 ∧ H4 = H3 ∧ n3 ≤ n4) ?_ ?_
      · simp -implicitDefEqProofs (disch := omega) only [↓walk, plain, List.length_map, List.getElem?_map, Option.map_some, Nat.reduceBEq, decT, decF, iteT, iteF, wrap_ok, Int.reduceToNat, Int.reduceLE, Int.reduceLT, Int.reduceAdd, Int.reduceSub, Int.reduceNeg, reduceIte, Nat.reduceEqDiff, Nat.reduceAdd, Nat.reduceSub, Nat.reduceMul, Nat.reduceLeDiff, Nat.reduceShiftRight, Nat.reduceMod, reduceCtorEq]
        refine go_loopm 43556142884750484908705268055477325971456 (by first | rfl | (simp only [mods, modsL, modsD, optB]; rfl)) (fun kk fr4 H4 n4 => ∃ q r : Int, fr4 14 = .i .i64 q ∧ fr4 15 = .i .i64 r ∧ q * s + r = d1 * 1000000000 + d2 ∧ 0 ≤ r ∧ r < 1000000000 ∧ qt ≤ q ∧ q ≤ 1000000001 ∧ H4 = H3 ∧ n3 ≤ n4 ∧ kk = (1000000000 - r).toNat) (1000000000 - rr).toNat ?_ ?_
        · simp -implicitDefEqProofs (disch := omega) only [↓walk, plain, List.length_map, List.getElem?_map, Option.map_some, Nat.reduceBEq, decT, decF, iteT, iteF, wrap_ok, Int.reduceToNat, Int.reduceLE, Int.reduceLT, Int.reduceAdd, Int.reduceSub, Int.reduceNeg, reduceIte, Nat.reduceEqDiff, Nat.reduceAdd, Nat.reduceSub, Nat.reduceMul, Nat.reduceLeDiff, Nat.reduceShiftRight, Nat.reduceMod, reduceCtorEq]
          refine ⟨qq, rr, ?_⟩
          (repeat' first | refine And.intro ?_ ?_ | rfl | omega | assumption | exact trivial | (dsimp only; omega))
        · rintro kk fr4 H4 n4 ⟨q, r, f14, f15, hqr, hr0, hr1, hqt, hq1, rfl, hn4, rfl⟩
          have hqv := Int.mul_nonneg (show 0 ≤ q by omega) bv.1
          have hqv2 : q * v2 ≤ 1000000001 * 999999999 := Int.mul_le_mul hq1 (by omega) bv.1 (by omega)
          have hn2 : ((M + 2 : Nat) : Int) - 2 = (M : Int) := by omega
          have hqs : (q - 1) * s + (r + s) = d1 * 1000000000 + d2 := by rw [← hqr]; grind
          have hbrk : 1000000000 ≤ r + s → q - 1 ≤ qt + 1 := by
            intro hb
            by_cases hq00 : q ≤ 0
            · omega
            refine est.up hqs (by omega) (by omega) ?_
            have : (q - 1) * v2 ≤ 1000000000 * 999999999 := Int.mul_le_mul (by omega) (by omega) bv.1 (by omega)
            omega
          have body : 0 ≤ q - 1 ∧ qt ≤ q - 1 → go P (.block 5 (.seq (.ops []) (.ops []))) [] (fun _ _ => True) ⟨fr4, H4, n4⟩ → True := fun _ _ => trivial
          clear body
          refine go_cut 340282285791300048856692911642763067392 (by first | rfl | (simp only [mods, modsL, modsD, optB]; rfl)) (fun fr5 H5 n5 => qt ≤ q - 1 ∧ H5 = H4 ∧ n4 ≤ n5) ?_ ?_
          · by_cases hB : 1000000000 ≤ q
            · simp -implicitDefEqProofs (disch := omega) only [↓walk, plain, List.length_map, List.getElem?_map, Option.map_some, Nat.reduceBEq, decT, decF, iteT, iteF, wrap_ok, Int.reduceToNat, Int.reduceLE, Int.reduceLT, Int.reduceAdd, Int.reduceSub, Int.reduceNeg, reduceIte, Nat.reduceEqDiff, Nat.reduceAdd, Nat.reduceSub, Nat.reduceMul, Nat.reduceLeDiff, Nat.reduceShiftRight, Nat.reduceMod, reduceCtorEq, f14]
              exact ⟨est.down hqr (by omega) (.inl hB), by omega⟩
            · simp -implicitDefEqProofs (disch := omega) only [↓walk, plain, List.length_map, List.getElem?_map, Option.map_some, Nat.reduceBEq, iteT, iteF, wrap_ok, Int.reduceToNat, Int.reduceLE, Int.reduceLT, Int.reduceAdd, Int.reduceSub, Int.reduceNeg, reduceIte, Nat.reduceEqDiff, Nat.reduceAdd, Nat.reduceSub, Nat.reduceMul, Nat.reduceLeDiff, Nat.reduceShiftRight, Nat.reduceMod, reduceCtorEq, f14, f15, hly, hM, hn2, hv2, k1, k3, hH, h3, f7, f12, decF hB]
              refine goC_dec (fun hc => ?_) (fun hc => ?_)
              · simp -implicitDefEqProofs (disch := omega) only [↓walk, plain, List.length_map, List.getElem?_map, Option.map_some, Nat.reduceBEq, decT, decF, iteT, iteF, wrap_ok, Int.reduceToNat, Int.reduceLE, Int.reduceLT, Int.reduceAdd, Int.reduceSub, Int.reduceNeg, reduceIte, Nat.reduceEqDiff, Nat.reduceAdd, Nat.reduceSub, Nat.reduceMul, Nat.reduceLeDiff, Nat.reduceShiftRight, Nat.reduceMod, reduceCtorEq]
                exact ⟨est.down hqr (by omega) (.inr hc), by omega⟩
              · simp -implicitDefEqProofs (disch := omega) only [↓walk, plain, List.length_map, List.getElem?_map, Option.map_some, Nat.reduceBEq, decT, decF, iteT, iteF, wrap_ok, Int.reduceToNat, Int.reduceLE, Int.reduceLT, Int.reduceAdd, Int.reduceSub, Int.reduceNeg, reduceIte, Nat.reduceEqDiff, Nat.reduceAdd, Nat.reduceSub, Nat.reduceMul, Nat.reduceLeDiff, Nat.reduceShiftRight, Nat.reduceMod, reduceCtorEq, f14]
                refine ⟨q, ?_⟩
                (repeat' first | refine And.intro ?_ ?_ | rfl | omega | assumption | exact trivial | (dsimp only; omega))
                · exact est.up hqr (by omega) (by omega) (by omega)
          · rintro fr5 H5 n5 ⟨hdn, rfl, hn5⟩
            simp -implicitDefEqProofs (disch := omega) only [↓walk, plain, List.length_map, List.getElem?_map, Option.map_some, Nat.reduceBEq, iteT, iteF, wrap_ok, Int.reduceToNat, Int.reduceLE, Int.reduceLT, Int.reduceAdd, Int.reduceSub, Int.reduceNeg, reduceIte, Nat.reduceEqDiff, Nat.reduceAdd, Nat.reduceSub, Nat.reduceMul, Nat.reduceLeDiff, Nat.reduceShiftRight, Nat.reduceMod, reduceCtorEq, f14, f15]
            refine goC_dec (fun hc => ?_) (fun hc => ?_)
            · simp -implicitDefEqProofs (disch := omega) only [↓walk, plain, List.length_map, List.getElem?_map, Option.map_some, Nat.reduceBEq, decT, decF, iteT, iteF, wrap_ok, Int.reduceToNat, Int.reduceLE, Int.reduceLT, Int.reduceAdd, Int.reduceSub, Int.reduceNeg, reduceIte, Nat.reduceEqDiff, Nat.reduceAdd, Nat.reduceSub, Nat.reduceMul, Nat.reduceLeDiff, Nat.reduceShiftRight, Nat.reduceMod, reduceCtorEq]
              have := hbrk hc
              refine ⟨q - 1, ?_⟩
              (repeat' first | refine And.intro ?_ ?_ | rfl | omega | assumption | exact trivial | (dsimp only; omega))
            · simp -implicitDefEqProofs (disch := omega) only [↓walk, plain, List.length_map, List.getElem?_map, Option.map_some, Nat.reduceBEq, decT, decF, iteT, iteF, wrap_ok, Int.reduceToNat, Int.reduceLE, Int.reduceLT, Int.reduceAdd, Int.reduceSub, Int.reduceNeg, reduceIte, Nat.reduceEqDiff, Nat.reduceAdd, Nat.reduceSub, Nat.reduceMul, Nat.reduceLeDiff, Nat.reduceShiftRight, Nat.reduceMod, reduceCtorEq]
              refine ⟨(1000000000 - (r + s)).toNat, by omega, q - 1, r + s, ?_⟩
              (repeat' first | refine And.intro ?_ ?_ | rfl | omega | assumption | exact trivial | (dsimp only; omega))
      rintro fr4 H4 n4 ⟨q, f14, hqt1, hqt2, hq0', hqB, rfl, hn4⟩
      refine go_hold fun R11 hR11 => ?_
      simp -implicitDefEqProofs (disch := omega) only [↓walk, plain, List.length_map, List.getElem?_map, Option.map_some, Nat.reduceBEq, decT, decF, iteT, iteF, wrap_ok, Int.reduceToNat, Int.reduceLE, Int.reduceLT, Int.reduceAdd, Int.reduceSub, Int.reduceNeg, reduceIte, Nat.reduceEqDiff, Nat.reduceAdd, Nat.reduceSub, Nat.reduceMul, Nat.reduceLeDiff, Nat.reduceShiftRight, Nat.reduceMod, reduceCtorEq]
      subst hR11
      refine go_cut 1496577676583288445274693145378161862376408593399808 (by first | rfl | (simp only [mods, modsL, modsD, optB]; rfl)) (fun fr5 H5 n5 => ∃ (x1 : List Int) (c : Int), fr5 16 = .i .i64 c ∧ H5 T = some (1, x1.map (.i .i64)) ∧ H5 TO = some (1, os.map (.i .i64)) ∧ x1.length = D + (M + 2) ∧ Dig x1 ∧ 0 ≤ c ∧ c ≤ q ∧ x1.drop (k + M + 2) = xs2.drop (k + M + 2) ∧ x1.take k = xs2.take k ∧ val x1 - c * pw (k + (M + 2)) = val xs2 - q * val (limbs (b * ff)) * pw k ∧ n4 ≤ n5) ?_ ?_
      · simp -implicitDefEqProofs (disch := omega) only [↓walk, plain, List.length_map, List.getElem?_map, Option.map_some, Nat.reduceBEq, decT, decF, iteT, iteF, wrap_ok, Int.reduceToNat, Int.reduceLE, Int.reduceLT, Int.reduceAdd, Int.reduceSub, Int.reduceNeg, reduceIte, Nat.reduceEqDiff, Nat.reduceAdd, Nat.reduceSub, Nat.reduceMul, Nat.reduceLeDiff, Nat.reduceShiftRight, Nat.reduceMod, reduceCtorEq, hly, hM]
        refine go_loopm 1496577676539732302308813022054849912625142262333440 (by first | rfl | (simp only [mods, modsL, modsD, optB]; rfl)) (fun kk fr5 H5 n5 => ∃ (i : Nat) (x1 : List Int) (c : Int), i + kk = M + 2 ∧ fr5 136 = .i .i64 i ∧ fr5 16 = .i .i64 c ∧ H5 T = some (1, x1.map (.i .i64)) ∧ H5 TO = some (1, os.map (.i .i64)) ∧ x1.length = D + (M + 2) ∧ Dig x1 ∧ 0 ≤ c ∧ c ≤ q ∧ x1.drop (k + i) = xs2.drop (k + i) ∧ x1.take k = xs2.take k ∧ val x1 - c * pw (k + i) = val xs2 - q * val ((limbs (b * ff)).take i) * pw k ∧ n4 ≤ n5) (M + 2) ?_ ?_
        · simp -implicitDefEqProofs (disch := omega) only [↓walk, plain, List.length_map, List.getElem?_map, Option.map_some, Nat.reduceBEq, decT, decF, iteT, iteF, wrap_ok, Int.reduceToNat, Int.reduceLE, Int.reduceLT, Int.reduceAdd, Int.reduceSub, Int.reduceNeg, reduceIte, Nat.reduceEqDiff, Nat.reduceAdd, Nat.reduceSub, Nat.reduceMul, Nat.reduceLeDiff, Nat.reduceShiftRight, Nat.reduceMod, reduceCtorEq]
          refine ⟨0, xs2, 0, ?_⟩
          (repeat' first | refine And.intro ?_ ?_ | rfl | omega | assumption | exact trivial | (dsimp only; omega))
          · simp [val]
        · rintro kk fr5 H5 n5 ⟨i, x1, c, hkk, f136, f16, hH5, hHO5, hl1, dx1, hc0, hcq, hdr, htk, hv1, hn5⟩
          simp -implicitDefEqProofs (disch := omega) only [↓walk, plain, List.length_map, List.getElem?_map, Option.map_some, Nat.reduceBEq, iteT, iteF, wrap_ok, Int.reduceToNat, Int.reduceLE, Int.reduceLT, Int.reduceAdd, Int.reduceSub, Int.reduceNeg, reduceIte, Nat.reduceEqDiff, Nat.reduceAdd, Nat.reduceSub, Nat.reduceMul, Nat.reduceLeDiff, Nat.reduceShiftRight, Nat.reduceMod, reduceCtorEq, f136]
          refine goC_dec (fun h0 => ?_) (fun h0 => ?_)
          · obtain ⟨xi, hxi⟩ := getc (xs := x1) (i := k + i) (by omega)
            obtain ⟨yi, hyi⟩ := getc (xs := limbs (b * ff)) (i := i) (by omega)
            have bx := dx1.at hxi
            have by' := dy.at hyi
            obtain ⟨bb1, bb2, bb3⟩ := borrow_bound bx.1 bx.2 by'.1 by'.2 hq0' hqB hc0 hcq
            have ki : (k : Int) + (i : Int) = ((k + i : Nat) : Int) := by omega
            simp -implicitDefEqProofs (disch := omega) only [↓walk, plain, List.length_map, List.getElem?_map, Option.map_some, Nat.reduceBEq, iteT, iteF, wrap_ok, Int.reduceToNat, Int.reduceLE, Int.reduceLT, Int.reduceAdd, Int.reduceSub, Int.reduceNeg, reduceIte, Nat.reduceEqDiff, Nat.reduceAdd, Nat.reduceSub, Nat.reduceMul, Nat.reduceLeDiff, Nat.reduceShiftRight, Nat.reduceMod, reduceCtorEq, f7, f12, f136, ki, hH5, hxi, f14, hyi, f16]
            refine goC_join 11600669246314041913241748359685496468518964887552 (by first | rfl | (simp only [mods, modsL, modsD, optB]; rfl)) (fun fr6 H6 n6 => ∃ c' s' : Int, fr6 16 = .i .i64 c' ∧ fr6 18 = .i .i64 s' ∧ s' = xi - q * yi - c + c' * 1000000000 ∧ 0 ≤ s' ∧ s' < 1000000000 ∧ 0 ≤ c' ∧ c' ≤ q ∧ H6 = H5 ∧ n5 ≤ n6) (fun h2 => ?_) (fun h2 => ?_) ?_
            · have e5 : Int.tdiv (999999999 - (xi - q * yi - c)) 1000000000 = (999999999 - (xi - q * yi - c)) / 1000000000 := Int.tdiv_eq_ediv_of_nonneg (by omega)
              simp -implicitDefEqProofs (disch := omega) only [↓walk, plain, List.length_map, List.getElem?_map, Option.map_some, Nat.reduceBEq, decT, decF, iteT, iteF, wrap_ok, Int.reduceToNat, Int.reduceLE, Int.reduceLT, Int.reduceAdd, Int.reduceSub, Int.reduceNeg, reduceIte, Nat.reduceEqDiff, Nat.reduceAdd, Nat.reduceSub, Nat.reduceMul, Nat.reduceLeDiff, Nat.reduceShiftRight, Nat.reduceMod, reduceCtorEq, e5]
              refine ⟨(999999999 - (xi - q * yi - c)) / 1000000000, xi - q * yi - c + (999999999 - (xi - q * yi - c)) / 1000000000 * 1000000000, ?_⟩
              (repeat' first | refine And.intro ?_ ?_ | rfl | omega | assumption | exact trivial | (dsimp only; omega))
            · simp -implicitDefEqProofs (disch := omega) only [↓walk, plain, List.length_map, List.getElem?_map, Option.map_some, Nat.reduceBEq, decT, decF, iteT, iteF, wrap_ok, Int.reduceToNat, Int.reduceLE, Int.reduceLT, Int.reduceAdd, Int.reduceSub, Int.reduceNeg, reduceIte, Nat.reduceEqDiff, Nat.reduceAdd, Nat.reduceSub, Nat.reduceMul, Nat.reduceLeDiff, Nat.reduceShiftRight, Nat.reduceMod, reduceCtorEq]
              refine ⟨0, xi - q * yi - c, ?_⟩
              (repeat' first | refine And.intro ?_ ?_ | rfl | omega | assumption | exact trivial | (dsimp only; omega))
            · rintro fr6 H6 n6 ⟨c', s', f16', f18, hs', hs0, hs1, hc0', hcq', rfl, hn6⟩
              have hset : (x1.map (AV.i .i64)).set (k + i) (.i .i64 s') = (x1.set (k + i) s').map (.i .i64) := by rw [List.map_set]
              simp -implicitDefEqProofs (disch := omega) only [↓walk, plain, List.length_map, List.getElem?_map, Option.map_some, Nat.reduceBEq, decT, decF, iteT, iteF, wrap_ok, Int.reduceToNat, Int.reduceLE, Int.reduceLT, Int.reduceAdd, Int.reduceSub, Int.reduceNeg, reduceIte, Nat.reduceEqDiff, Nat.reduceAdd, Nat.reduceSub, Nat.reduceMul, Nat.reduceLeDiff, Nat.reduceShiftRight, Nat.reduceMod, reduceCtorEq, f7, f12, f136, ki, hH5, hxi, f18, f16', hset]
              refine ⟨kk - 1, by omega, i + 1, x1.set (k + i) s', c', ?_⟩
              (repeat' first | refine And.intro ?_ ?_ | rfl | omega | assumption | exact trivial | (dsimp only; omega))
              · simpa using hl1
              · exact dx1.set hs0 hs1
              · rw [show k + (i + 1) = k + i + 1 by omega, drop_set1, ← List.drop_drop, hdr, List.drop_drop]
              · rw [List.take_set_of_le (by omega)]; exact htk
              · exact subr_step hv1 hxi hyi hs'
          · have hi : i = M + 2 := by omega
            subst hi
            rw [take_all (by omega)] at hv1
            simp -implicitDefEqProofs (disch := omega) only [↓walk, plain, List.length_map, List.getElem?_map, Option.map_some, Nat.reduceBEq, decT, decF, iteT, iteF, wrap_ok, Int.reduceToNat, Int.reduceLE, Int.reduceLT, Int.reduceAdd, Int.reduceSub, Int.reduceNeg, reduceIte, Nat.reduceEqDiff, Nat.reduceAdd, Nat.reduceSub, Nat.reduceMul, Nat.reduceLeDiff, Nat.reduceShiftRight, Nat.reduceMod, reduceCtorEq]
            refine ⟨x1, c, ?_⟩
            (repeat' first | refine And.intro ?_ ?_ | rfl | omega | assumption | exact trivial | (dsimp only; omega))
      rintro fr5 H5 n5 ⟨x1, c, f16, hH5, hHO5, hl1, dx1, hc0, hcq, hdr, htk, hv1, hn5⟩
      have hx1 : x1[k + M + 2]? = some d1 := by rw [at_drop0 hdr]; exact h1
      have hset : (x1.map (AV.i .i64)).set (k + M + 2) (.i .i64 (d1 - c)) = (x1.set (k + M + 2) (d1 - c)).map (.i .i64) := by rw [List.map_set]
      refine go_hold fun R12 hR12 => ?_
      simp -implicitDefEqProofs (disch := omega) only [↓walk, plain, List.length_map, List.getElem?_map, Option.map_some, Nat.reduceBEq, decT, decF, iteT, iteF, wrap_ok, Int.reduceToNat, Int.reduceLE, Int.reduceLT, Int.reduceAdd, Int.reduceSub, Int.reduceNeg, reduceIte, Nat.reduceEqDiff, Nat.reduceAdd, Nat.reduceSub, Nat.reduceMul, Nat.reduceLeDiff, Nat.reduceShiftRight, Nat.reduceMod, reduceCtorEq, f7, f12, hly, hM, k1, hH5, hx1, f16, hset]
      subst hR12
      have hzz : val (x1.drop (k + M + 2 + 1)) = 0 := by
        have := congrArg (List.drop 1) hdr
        simp only [List.drop_drop] at this
        rw [show k + M + 2 + 1 = k + M + 2 + 1 from rfl, this]; exact hz
      have hRlt := round_lt (k := k) (Y := val (limbs (b * ff))) (qt := qt) dx2 (by omega) est.qt2 rfl
      have hRge := round_ge (k := k) (Y := val (limbs (b * ff))) (qt := qt) dx2 (by omega) est.qt1 rfl
      have hsr := sub_round (c := c) dx2 dx1 dy hlY (by omega) (by omega) h1 hz hdr htk hv1 est.qt1 est.qt2 ⟨hqt1, hqt2⟩
      rw [show k + (M + 2) = k + M + 2 by omega] at hv1
      refine go_cut 53919893334300513341563597229610082173760713690489335592646132383744 (by first | rfl | (simp only [mods, modsL, modsD, optB]; rfl)) (fun fr6 H6 n6 => ∃ x3 : List Int, fr6 14 = .i .i64 qt ∧ H6 T = some (1, x3.map (.i .i64)) ∧ H6 TO = some (1, os.map (.i .i64)) ∧ x3.length = D + (M + 2) ∧ Dig x3 ∧ val x3 = val xs2 - qt * val (limbs (b * ff)) * pw k ∧ n5 ≤ n6) ?_ ?_
      · have hget : (x1.set (k + M + 2) (d1 - c))[k + M + 2]? = some (d1 - c) := List.getElem?_set_self (by omega)
        rcases hsr with ⟨he, rfl⟩ | ⟨he, rfl⟩
        · simp -implicitDefEqProofs (disch := omega) only [↓walk, plain, List.length_map, List.getElem?_map, Option.map_some, Nat.reduceBEq, decT, decF, iteT, iteF, wrap_ok, Int.reduceToNat, Int.reduceLE, Int.reduceLT, Int.reduceAdd, Int.reduceSub, Int.reduceNeg, reduceIte, Nat.reduceEqDiff, Nat.reduceAdd, Nat.reduceSub, Nat.reduceMul, Nat.reduceLeDiff, Nat.reduceShiftRight, Nat.reduceMod, reduceCtorEq, f7, f12, hly, hM, k1, hget]
          refine ⟨x1.set (k + M + 2) (d1 - c), ?_⟩
          (repeat' first | refine And.intro ?_ ?_ | rfl | omega | assumption | exact trivial | (dsimp only; omega))
          · simpa using hl1
          · rw [he]; exact dx1.set (by omega) (by omega)
          · rw [val_set hx1, he, ← hv1, show d1 = c by omega]; grind
        · have w0 : x1.set (k + M + 2) (d1 - c) = (x1.set (k + M + 2) 0).set (k + M + 2) (-1) := by rw [List.set_set, he]
          have hw0 : (x1.set (k + M + 2) 0)[k + M + 2]? = some 0 := List.getElem?_set_self (by omega)
          have e9 : qt + 1 - 1 = qt := by omega
          simp -implicitDefEqProofs (disch := omega) only [↓walk, plain, List.length_map, List.getElem?_map, Option.map_some, Nat.reduceBEq, decT, decF, iteT, iteF, wrap_ok, Int.reduceToNat, Int.reduceLE, Int.reduceLT, Int.reduceAdd, Int.reduceSub, Int.reduceNeg, reduceIte, Nat.reduceEqDiff, Nat.reduceAdd, Nat.reduceSub, Nat.reduceMul, Nat.reduceLeDiff, Nat.reduceShiftRight, Nat.reduceMod, reduceCtorEq, f7, f12, hly, hM, k1, hget, f14, e9]
          refine go_loopm 105312290883919469774582932204196754417936793387754680696310333440 (by first | rfl | (simp only [mods, modsL, modsD, optB]; rfl)) (fun kk fr6 H6 n6 => ∃ (i : Nat) (w : List Int) (c2 : Int), i + kk = M + 2 ∧ fr6 189 = .i .i64 i ∧ fr6 19 = .i .i64 c2 ∧ (c2 = 0 ∨ c2 = 1) ∧ H6 T = some (1, (w.set (k + M + 2) (-1)).map (.i .i64)) ∧ H6 TO = some (1, os.map (.i .i64)) ∧ w.length = D + (M + 2) ∧ Dig w ∧ w[k + M + 2]? = some 0 ∧ val (w.drop (k + M + 2 + 1)) = 0 ∧ val w + c2 * pw (k + i) = val (x1.set (k + M + 2) 0) + val ((limbs (b * ff)).take i) * pw k ∧ n5 ≤ n6) (M + 2) ?_ ?_
          · simp -implicitDefEqProofs (disch := omega) only [↓walk, plain, List.length_map, List.getElem?_map, Option.map_some, Nat.reduceBEq, decT, decF, iteT, iteF, wrap_ok, Int.reduceToNat, Int.reduceLE, Int.reduceLT, Int.reduceAdd, Int.reduceSub, Int.reduceNeg, reduceIte, Nat.reduceEqDiff, Nat.reduceAdd, Nat.reduceSub, Nat.reduceMul, Nat.reduceLeDiff, Nat.reduceShiftRight, Nat.reduceMod, reduceCtorEq]
            refine ⟨0, x1.set (k + M + 2) 0, 0, ?_⟩
            (repeat' first | refine And.intro ?_ ?_ | rfl | omega | assumption | exact trivial | (dsimp only; omega))
            · rw [w0]
            · simpa using hl1
            · exact dx1.set (by omega) (by omega)
            · rw [drop_set1]; exact hzz
          · rintro kk fr6 H6 n6 ⟨i, w, c2, hkk, f189, f19, hc2, hH6, hHO6, hlw, dw, hw, hwz, hvw, hn6⟩
            simp -implicitDefEqProofs (disch := omega) only [↓walk, plain, List.length_map, List.getElem?_map, Option.map_some, Nat.reduceBEq, iteT, iteF, wrap_ok, Int.reduceToNat, Int.reduceLE, Int.reduceLT, Int.reduceAdd, Int.reduceSub, Int.reduceNeg, reduceIte, Nat.reduceEqDiff, Nat.reduceAdd, Nat.reduceSub, Nat.reduceMul, Nat.reduceLeDiff, Nat.reduceShiftRight, Nat.reduceMod, reduceCtorEq, f189]
            refine goC_dec (fun h0 => ?_) (fun h0 => ?_)
            · obtain ⟨xi, hxi⟩ := getc (xs := w) (i := k + i) (by omega)
              obtain ⟨yi, hyi⟩ := getc (xs := limbs (b * ff)) (i := i) (by omega)
              have hxi' : (w.set (k + M + 2) (-1))[k + i]? = some xi := by rw [List.getElem?_set_ne (by omega)]; exact hxi
              have bx := dw.at hxi
              have by' := dy.at hyi
              have ki : (k : Int) + (i : Int) = ((k + i : Nat) : Int) := by omega
              simp -implicitDefEqProofs (disch := omega) only [↓walk, plain, List.length_map, List.getElem?_map, Option.map_some, Nat.reduceBEq, iteT, iteF, wrap_ok, Int.reduceToNat, Int.reduceLE, Int.reduceLT, Int.reduceAdd, Int.reduceSub, Int.reduceNeg, reduceIte, Nat.reduceEqDiff, Nat.reduceAdd, Nat.reduceSub, Nat.reduceMul, Nat.reduceLeDiff, Nat.reduceShiftRight, Nat.reduceMod, reduceCtorEq, f7, f12, f189, ki, hH6, hxi', hyi, f19]
              refine goC_dec (fun h2 => ?_) (fun h2 => ?_)
              · have hset2 : ((w.set (k + M + 2) (-1)).map (AV.i .i64)).set (k + i) (.i .i64 (xi + yi + c2 - 1000000000)) = ((w.set (k + i) (xi + yi + c2 - 1000000000)).set (k + M + 2) (-1)).map (.i .i64) := by rw [← List.map_set, List.set_comm _ _ (by omega)]
                simp -implicitDefEqProofs (disch := omega) only [↓walk, plain, List.length_map, List.getElem?_map, Option.map_some, Nat.reduceBEq, decT, decF, iteT, iteF, wrap_ok, Int.reduceToNat, Int.reduceLE, Int.reduceLT, Int.reduceAdd, Int.reduceSub, Int.reduceNeg, reduceIte, Nat.reduceEqDiff, Nat.reduceAdd, Nat.reduceSub, Nat.reduceMul, Nat.reduceLeDiff, Nat.reduceShiftRight, Nat.reduceMod, reduceCtorEq, f7, f12, f189, ki, hH6, hxi', hset2]
                refine ⟨kk - 1, by omega, i + 1, w.set (k + i) (xi + yi + c2 - 1000000000), 1, ?_⟩
                (repeat' first | refine And.intro ?_ ?_ | rfl | omega | assumption | exact trivial | (dsimp only; omega))
                · simpa using hlw
                · exact dw.set (by omega) (by omega)
                · rw [List.getElem?_set_ne (by omega)]; exact hw
                · rw [List.drop_set, if_pos (by omega)]; exact hwz
                · exact addr_step hvw hxi hyi (by omega)
              · have hset2 : ((w.set (k + M + 2) (-1)).map (AV.i .i64)).set (k + i) (.i .i64 (xi + yi + c2)) = ((w.set (k + i) (xi + yi + c2)).set (k + M + 2) (-1)).map (.i .i64) := by rw [← List.map_set, List.set_comm _ _ (by omega)]
                simp -implicitDefEqProofs (disch := omega) only [↓walk, plain, List.length_map, List.getElem?_map, Option.map_some, Nat.reduceBEq, decT, decF, iteT, iteF, wrap_ok, Int.reduceToNat, Int.reduceLE, Int.reduceLT, Int.reduceAdd, Int.reduceSub, Int.reduceNeg, reduceIte, Nat.reduceEqDiff, Nat.reduceAdd, Nat.reduceSub, Nat.reduceMul, Nat.reduceLeDiff, Nat.reduceShiftRight, Nat.reduceMod, reduceCtorEq, f7, f12, f189, ki, hH6, hxi', hset2]
                refine ⟨kk - 1, by omega, i + 1, w.set (k + i) (xi + yi + c2), 0, ?_⟩
                (repeat' first | refine And.intro ?_ ?_ | rfl | omega | assumption | exact trivial | (dsimp only; omega))
                · simpa using hlw
                · exact dw.set (by omega) (by omega)
                · rw [List.getElem?_set_ne (by omega)]; exact hw
                · rw [List.drop_set, if_pos (by omega)]; exact hwz
                · exact addr_step hvw hxi hyi (by omega)
            · have hi : i = M + 2 := by omega
              subst hi
              rw [take_all (by omega), show k + (M + 2) = k + M + 2 by omega] at hvw
              have hvx1 : val (x1.set (k + M + 2) 0) = val xs2 - (qt + 1) * val (limbs (b * ff)) * pw k + pw (k + M + 2) := by
                rw [val_set hx1, ← hv1, show d1 = c - 1 by omega]; grind
              have hfin := add_fin (R := val xs2 - qt * val (limbs (b * ff)) * pw k) dw (by omega) hw hwz hc2 hRge (by rw [hvw, hvx1]; grind)
              obtain ⟨rfl, hfin⟩ := hfin
              have hget2 : (w.set (k + M + 2) (-1))[k + M + 2]? = some (-1) := List.getElem?_set_self (by omega)
              have hset2 : ((w.set (k + M + 2) (-1)).map (AV.i .i64)).set (k + M + 2) (.i .i64 0) = w.map (.i .i64) := by rw [← List.map_set, List.set_set, set_zero_self hw]
              simp -implicitDefEqProofs (disch := omega) only [↓walk, plain, List.length_map, List.getElem?_map, Option.map_some, Nat.reduceBEq, decT, decF, iteT, iteF, wrap_ok, Int.reduceToNat, Int.reduceLE, Int.reduceLT, Int.reduceAdd, Int.reduceSub, Int.reduceNeg, reduceIte, Nat.reduceEqDiff, Nat.reduceAdd, Nat.reduceSub, Nat.reduceMul, Nat.reduceLeDiff, Nat.reduceShiftRight, Nat.reduceMod, reduceCtorEq, f7, f12, hly, hM, k1, hH6, hget2, f19, hset2]
              refine ⟨w, ?_⟩
              (repeat' first | refine And.intro ?_ ?_ | rfl | omega | assumption | exact trivial | (dsimp only; omega))
      rintro fr6 H6 n6 ⟨x3, f14', hH6, hHO6, hl3, dx3, hv3, hn6⟩
      obtain ⟨ok0, hok⟩ : ∃ z, os[k]? = some z := getc (by omega)
      have hok' : os[k]? = some 0 := hoz k (by omega)
      have hqlt := est.qtlt
      have hset : (os.map (AV.i .i64)).set k (.i .i64 qt) = (os.set k qt).map (.i .i64) := by rw [List.map_set]
      have k5 : (k : Int) = (((k : Nat) : Int)) := rfl
      simp -implicitDefEqProofs (disch := omega) only [↓walk, plain, List.length_map, List.getElem?_map, Option.map_some, Nat.reduceBEq, decT, decF, iteT, iteF, wrap_ok, Int.reduceToNat, Int.reduceLE, Int.reduceLT, Int.reduceAdd, Int.reduceSub, Int.reduceNeg, reduceIte, Nat.reduceEqDiff, Nat.reduceAdd, Nat.reduceSub, Nat.reduceMul, Nat.reduceLeDiff, Nat.reduceShiftRight, Nat.reduceMod, reduceCtorEq, f10, f12, hHO6, hok', f14', hset]
      refine ⟨k, by omega, x3, os.set k qt, ?_⟩
      (repeat' first | refine And.intro ?_ ?_ | rfl | omega | assumption | exact trivial | (dsimp only; omega))
      · simpa using hlo
      · exact dos.set m6 hqlt
      · intro j hj
        rw [List.getElem?_set_ne (by omega)]; exact hoz j (by omega)
      · rw [val_set hok', hv3, heq]; grind
  rintro fr12 H12 n12 ⟨xs2, os, hn12, hH, hHO, hlx2, hlo, dx2, dos, heq, hlt⟩
  have hxn := dx2.nonneg
  have hon := dos.nonneg
  obtain ⟨X, hX⟩ := Int.eq_ofNat_of_zero_le hxn
  obtain ⟨O, hO⟩ := Int.eq_ofNat_of_zero_le hon
  rw [hX, hO, hvY] at heq
  rw [hX, hvY] at hlt
  have hX1 : X < b * ff := by omega
  have heq2 : a * ff = X + O * (b * ff) := by
    have e : ((O * (b * ff) : Nat) : Int) = (O : Int) * ((b * ff : Nat) : Int) := Int.natCast_mul _ _
    omega
  obtain ⟨r1, r2⟩ := div_fin (by omega) hb heq2 hX1
  refine go_hold fun R13 hR13 => ?_
  have hl12 : ((limbs a).length + 1) = xs2.length := hlx2.symm
  simp -implicitDefEqProofs (disch := omega) only [↓walk, plain, List.length_map, List.getElem?_map, Option.map_some, Nat.reduceBEq, decT, decF, iteT, iteF, wrap_ok, Int.reduceToNat, Int.reduceLE, Int.reduceLT, Int.reduceAdd, Int.reduceSub, Int.reduceNeg, reduceIte, Nat.reduceEqDiff, Nat.reduceAdd, Nat.reduceSub, Nat.reduceMul, Nat.reduceLeDiff, Nat.reduceShiftRight, Nat.reduceMod, reduceCtorEq, f7, hlx, hl12]
  refine goCall_mc0 (k_impl_trim.1 _ _ T xs2 (by omega) hH) ?_
  rintro v H13 n13 ⟨rfl, hn13, k2, hk2, rfl, ht2⟩
  have htr := trim_val dx2 hX hk2 ht2.1 ht2.2
  have hXl : (limbs X).length ≤ 191 := by
    have := congrArg List.length htr
    rw [List.length_take] at this
    omega
  simp -implicitDefEqProofs (disch := omega) only [↓walk, plain, List.length_map, List.getElem?_map, Option.map_some, Nat.reduceBEq, decT, decF, iteT, iteF, wrap_ok, Int.reduceToNat, Int.reduceLE, Int.reduceLT, Int.reduceAdd, Int.reduceSub, Int.reduceNeg, reduceIte, Nat.reduceEqDiff, Nat.reduceAdd, Nat.reduceSub, Nat.reduceMul, Nat.reduceLeDiff, Nat.reduceShiftRight, Nat.reduceMod, reduceCtorEq]
  refine goCall_fc (k_impl_divSmall X ff (by omega) hff1 (by omega)) (vws_cons (vw_rf_ints (xs := limbs X) hH trivial (by rw [← htr, List.length_take, Nat.min_eq_left hk2]) (by rw [← htr, List.map_take])) (vws_cons vw_ii vws_nil)) ?_
  simp -implicitDefEqProofs (disch := omega) only [↓walk, plain, List.length_map, List.getElem?_map, Option.map_some, Nat.reduceBEq, decT, decF, iteT, iteF, wrap_ok, Int.reduceToNat, Int.reduceLE, Int.reduceLT, Int.reduceAdd, Int.reduceSub, Int.reduceNeg, reduceIte, Nat.reduceEqDiff, Nat.reduceAdd, Nat.reduceSub, Nat.reduceMul, Nat.reduceLeDiff, Nat.reduceShiftRight, Nat.reduceMod, reduceCtorEq]
  subst hR13
  rw [← hlo] at f10
  simp -implicitDefEqProofs (disch := omega) only [↓walk, plain, List.length_map, List.getElem?_map, Option.map_some, Nat.reduceBEq, decT, decF, iteT, iteF, wrap_ok, Int.reduceToNat, Int.reduceLE, Int.reduceLT, Int.reduceAdd, Int.reduceSub, Int.reduceNeg, reduceIte, Nat.reduceEqDiff, Nat.reduceAdd, Nat.reduceSub, Nat.reduceMul, Nat.reduceLeDiff, Nat.reduceShiftRight, Nat.reduceMod, reduceCtorEq, f10]
  refine goCall_mc0 (k_impl_trim.1 _ _ TO os (by omega) hHO) ?_
  rintro v H14 n14 ⟨rfl, hn14, k3, hk3, rfl, ht3⟩
  have hto := trim_val dos hO hk3 ht3.1 ht3.2
  simp -implicitDefEqProofs (disch := omega) only [↓walk, plain, List.length_map, List.getElem?_map, Option.map_some, Nat.reduceBEq, decT, decF, iteT, iteF, wrap_ok, Int.reduceToNat, Int.reduceLE, Int.reduceLT, Int.reduceAdd, Int.reduceSub, Int.reduceNeg, reduceIte, Nat.reduceEqDiff, Nat.reduceAdd, Nat.reduceSub, Nat.reduceMul, Nat.reduceLeDiff, Nat.reduceShiftRight, Nat.reduceMod, reduceCtorEq]
  rw [← r1, ← r2]
  exact data_ints2 (fz_ints_rf hHO (by rw [← hto, List.length_take, Nat.min_eq_left hk3]) (by rw [← hto, List.map_take])) (fz_ints_sl rfl) (by omega)
end Go.Am
/-! Walks: the greatest common divisor. -/
namespace Go.Am
set_option linter.unusedVariables false
set_option linter.unusedSimpArgs false
set_option maxRecDepth 10000
set_option maxHeartbeats 4000000
def c_impl_natGcd (n_impl_natDiv : Nat) (n_impl_copyInts : Nat) : AF := ⟨49, .seq (.ops [⟨(some 4), .mv (.c .nl), none, []⟩])
  (.seq (.block 0 (.loop (.seq (.seq (.ops [⟨(some 9), .mv (.t 1), none, []⟩,
   ⟨(some 10), .len (.t 9), none, []⟩,
   ⟨(some 11), .bin .gtr (.t 10) (.c (.i .i64 1)), none, []⟩,
   ⟨(some 12), .mv (.t 11), none, []⟩,
   ⟨(some 13), .mv (.t 0), some (12, false), []⟩,
   ⟨(some 14), .len (.t 13), some (12, false), []⟩,
   ⟨(some 15), .bin .gtr (.t 14) (.c (.i .i64 1)), some (12, false), []⟩,
   ⟨(some 16), .mv (.t 15), some (12, false), []⟩,
   ⟨(some 17), .mv (.t 1), some (16, true), []⟩,
   ⟨(some 18), .len (.t 17), some (16, true), []⟩,
   ⟨(some 19), .bin .gtr (.t 18) (.c (.i .i64 0)), some (16, true), []⟩,
   ⟨(some 20), .pick (.t 16) (.t 19) (.c (.b false)), some (12, false), []⟩,
   ⟨(some 21), .pick (.t 12) (.c (.b true)) (.t 20), none, []⟩])
  (.cond (.t 21)
  (.skip)
  (.exit 0)))
  (.block 1 (.seq (.ops [⟨(some 23), .mv (.t 0), none, []⟩,
   ⟨(some 24), .mv (.t 1), none, []⟩,
   ⟨(some 25), .call true n_impl_natDiv [(.t 23), (.t 24)], none, []⟩,
   ⟨(some 22), .mv (.t 25), none, []⟩,
   ⟨(some 26), .ext 0 (.t 22), none, []⟩,
   ⟨(some 27), .ext 1 (.t 22), none, []⟩,
   ⟨(some 5), .mv (.t 26), none, []⟩,
   ⟨(some 6), .mv (.t 27), none, []⟩])
  (.ops [⟨(some 28), .mv (.t 1), none, []⟩,
   ⟨(some 29), .mv (.t 6), none, []⟩,
   ⟨(some 0), .mv (.t 28), none, []⟩,
   ⟨(some 1), .mv (.t 29), none, []⟩]))))))
  (.seq (.seq (.ops [⟨(some 30), .mv (.t 1), none, []⟩,
   ⟨(some 31), .len (.t 30), none, []⟩,
   ⟨(some 32), .bin .eql (.t 31) (.c (.i .i64 0)), none, []⟩])
  (.cond (.t 32)
  (.seq (.ops [⟨(some 33), .mv (.t 0), none, []⟩,
    ⟨(some 34), .call true n_impl_copyInts [(.t 33)], none, []⟩,
    ⟨(some 4), .mv (.t 34), none, []⟩])
   (.ret))
  (.skip)))
  (.seq (.opsd [(0, ⟨(some 35), .mv (.t 0), none, []⟩),
   (1, ⟨(some 36), .iad 1 (.t 35) (.c (.i .i64 0)), none, []⟩),
   (2, ⟨(some 37), .ld none (.t 36), none, []⟩),
   (3, ⟨(some 38), .mv (.t 1), none, []⟩),
   (4, ⟨(some 39), .iad 1 (.t 38) (.c (.i .i64 0)), none, []⟩),
   (5, ⟨(some 40), .ld none (.t 39), none, []⟩),
   (6, ⟨(some 7), .mv (.t 37), none, []⟩),
   (7, ⟨(some 8), .mv (.t 40), none, []⟩)])
  (.seq (.block 2 (.loop (.seq (.seq (.ops [⟨(some 41), .mv (.t 8), none, []⟩,
   ⟨(some 42), .bin .neq (.t 41) (.c (.i .i64 0)), none, []⟩])
  (.cond (.t 42)
  (.skip)
  (.exit 2)))
  (.block 3 (.opsd [(0, ⟨(some 43), .mv (.t 8), none, []⟩),
   (1, ⟨(some 44), .mv (.t 7), none, []⟩),
   (2, ⟨(some 45), .mv (.t 8), none, []⟩),
   (3, ⟨(some 46), .bin .rem (.t 44) (.t 45), none, []⟩),
   (4, ⟨(some 7), .mv (.t 43), none, []⟩),
   (5, ⟨(some 8), .mv (.t 46), none, []⟩)])))))
  (.seq (.ops [⟨(some 47), .mv (.t 7), none, []⟩,
   ⟨(some 48), .bsl (.i .i64 0) 1 [(0, (.t 47))], none, []⟩,
   ⟨(some 4), .mv (.t 48), none, []⟩])
  (.ret)))))), [.t 4]⟩
def K_impl_natGcd (P : Program) (f : Nat) : Prop := ∀ a b : Nat, (a ≠ 0 ∨ b = 0) → (limbs a).length ≤ 180 → (limbs b).length ≤ 180 → FCI P f [ints (limbs a), ints (limbs b)] (limbs (Nat.gcd a b))
theorem t_impl_natGcd {P : Program} {f n_impl_natDiv n_impl_copyInts : Nat} (h : Has P f (c_impl_natGcd n_impl_natDiv n_impl_copyInts)) (k_impl_natDiv : K_impl_natDiv P n_impl_natDiv) (k_impl_copyInts : K_impl_copyInts P n_impl_copyInts) : K_impl_natGcd P f := by
  intro a b hab ha hb
  refine pc_go h (by simp) ?_
  simp -implicitDefEqProofs (disch := omega) only [↓walk, plain, List.length_map, List.getElem?_map, Option.map_some, Nat.reduceBEq, iteT, iteF, wrap_ok, Int.reduceToNat, Int.reduceLE, Int.reduceLT, Int.reduceAdd, Int.reduceSub, Int.reduceNeg, reduceIte, Nat.reduceEqDiff, Nat.reduceAdd, Nat.reduceSub, Nat.reduceMul, Nat.reduceLeDiff, Nat.reduceShiftRight, Nat.reduceMod, reduceCtorEq, ints]
  refine go_loopm 1073741411 (by first | rfl | (simp only [mods, modsL, modsD, optB]; rfl)) (fun k fr H n => ∃ (p q : Nat) (u w : Option Nat), fr 0 = .sl u ((limbs p).map (.i .i64)) ∧ fr 1 = .sl w ((limbs q).map (.i .i64)) ∧ Nat.gcd p q = Nat.gcd a b ∧ (p ≠ 0 ∨ q = 0) ∧ (limbs p).length ≤ 180 ∧ (limbs q).length ≤ 180 ∧ q = k) b ?_ ?_
  · simp -implicitDefEqProofs (disch := omega) only [↓walk, plain, List.length_map, List.getElem?_map, Option.map_some, Nat.reduceBEq, decT, decF, iteT, iteF, wrap_ok, Int.reduceToNat, Int.reduceLE, Int.reduceLT, Int.reduceAdd, Int.reduceSub, Int.reduceNeg, reduceIte, Nat.reduceEqDiff, Nat.reduceAdd, Nat.reduceSub, Nat.reduceMul, Nat.reduceLeDiff, Nat.reduceShiftRight, Nat.reduceMod, reduceCtorEq, ints]
    exact ⟨a, b, none, none, rfl, rfl, rfl, hab, ha, hb, rfl⟩
  · rintro k fr H n ⟨p, q, u, w, f0, f1, hg, hp0, hlp, hlq, rfl⟩
    by_cases hq0 : q = 0
    · subst hq0
      have e0 : (limbs 0).length = 0 := by rw [limbs_zero]; rfl
      rw [Nat.gcd_zero_right] at hg
      by_cases h1 : (limbs p).length > 1
      · simp -implicitDefEqProofs (disch := omega) only [↓walk, plain, List.length_map, List.getElem?_map, Option.map_some, Nat.reduceBEq, decT, decF, iteT, iteF, wrap_ok, Int.reduceToNat, Int.reduceLE, Int.reduceLT, Int.reduceAdd, Int.reduceSub, Int.reduceNeg, reduceIte, Nat.reduceEqDiff, Nat.reduceAdd, Nat.reduceSub, Nat.reduceMul, Nat.reduceLeDiff, Nat.reduceShiftRight, Nat.reduceMod, reduceCtorEq, f0, f1, e0]
        refine goCall_fc (OCI.fc (k_impl_copyInts (limbs p) (by omega))) (by repeat (first | exact vws_nil | refine vws_cons ?_ ?_ | exact vw_bb | exact vw_ii | exact vw_ss | exact vw_ints | exact vw_ints0 | exact vw_nn | exact vw_n0 | exact vwl_nil | refine vwl_cons ?_ ?_ | refine vw_agg ?_ | refine vw_fn ?_ | assumption)) ?_
        simp -implicitDefEqProofs (disch := omega) only [↓walk, plain, List.length_map, List.getElem?_map, Option.map_some, Nat.reduceBEq, decT, decF, iteT, iteF, wrap_ok, Int.reduceToNat, Int.reduceLE, Int.reduceLT, Int.reduceAdd, Int.reduceSub, Int.reduceNeg, reduceIte, Nat.reduceEqDiff, Nat.reduceAdd, Nat.reduceSub, Nat.reduceMul, Nat.reduceLeDiff, Nat.reduceShiftRight, Nat.reduceMod, reduceCtorEq]
        rw [hg]
        exact (fz_ints_sl rfl).data (by simp)
      · simp -implicitDefEqProofs (disch := omega) only [↓walk, plain, List.length_map, List.getElem?_map, Option.map_some, Nat.reduceBEq, decT, decF, iteT, iteF, wrap_ok, Int.reduceToNat, Int.reduceLE, Int.reduceLT, Int.reduceAdd, Int.reduceSub, Int.reduceNeg, reduceIte, Nat.reduceEqDiff, Nat.reduceAdd, Nat.reduceSub, Nat.reduceMul, Nat.reduceLeDiff, Nat.reduceShiftRight, Nat.reduceMod, reduceCtorEq, f0, f1, e0]
        refine goCall_fc (OCI.fc (k_impl_copyInts (limbs p) (by omega))) (by repeat (first | exact vws_nil | refine vws_cons ?_ ?_ | exact vw_bb | exact vw_ii | exact vw_ss | exact vw_ints | exact vw_ints0 | exact vw_nn | exact vw_n0 | exact vwl_nil | refine vwl_cons ?_ ?_ | refine vw_agg ?_ | refine vw_fn ?_ | assumption)) ?_
        simp -implicitDefEqProofs (disch := omega) only [↓walk, plain, List.length_map, List.getElem?_map, Option.map_some, Nat.reduceBEq, decT, decF, iteT, iteF, wrap_ok, Int.reduceToNat, Int.reduceLE, Int.reduceLT, Int.reduceAdd, Int.reduceSub, Int.reduceNeg, reduceIte, Nat.reduceEqDiff, Nat.reduceAdd, Nat.reduceSub, Nat.reduceMul, Nat.reduceLeDiff, Nat.reduceShiftRight, Nat.reduceMod, reduceCtorEq]
        rw [hg]
        exact (fz_ints_sl rfl).data (by simp)
    have hql : 0 < (limbs q).length := by rw [List.length_pos_iff]; exact fun e => hq0 (limbs_nil.1 e)
    have hpz : p ≠ 0 := by omega
    have hpl : 0 < (limbs p).length := by rw [List.length_pos_iff]; exact fun e => hpz (limbs_nil.1 e)
    have hlt := Nat.mod_lt p (show 0 < q by omega)
    by_cases h1 : (limbs q).length > 1
    · simp -implicitDefEqProofs (disch := omega) only [↓walk, plain, List.length_map, List.getElem?_map, Option.map_some, Nat.reduceBEq, decT, decF, iteT, iteF, wrap_ok, Int.reduceToNat, Int.reduceLE, Int.reduceLT, Int.reduceAdd, Int.reduceSub, Int.reduceNeg, reduceIte, Nat.reduceEqDiff, Nat.reduceAdd, Nat.reduceSub, Nat.reduceMul, Nat.reduceLeDiff, Nat.reduceShiftRight, Nat.reduceMod, reduceCtorEq, f0, f1]
      refine goCall_fc (k_impl_natDiv p q (by omega) (by omega) (by omega)) (by repeat (first | exact vws_nil | refine vws_cons ?_ ?_ | exact vw_bb | exact vw_ii | exact vw_ss | exact vw_ints | exact vw_ints0 | exact vw_nn | exact vw_n0 | exact vwl_nil | refine vwl_cons ?_ ?_ | refine vw_agg ?_ | refine vw_fn ?_ | assumption)) ?_
      simp -implicitDefEqProofs (disch := omega) only [↓walk, plain, List.length_map, List.getElem?_map, Option.map_some, Nat.reduceBEq, decT, decF, iteT, iteF, wrap_ok, Int.reduceToNat, Int.reduceLE, Int.reduceLT, Int.reduceAdd, Int.reduceSub, Int.reduceNeg, reduceIte, Nat.reduceEqDiff, Nat.reduceAdd, Nat.reduceSub, Nat.reduceMul, Nat.reduceLeDiff, Nat.reduceShiftRight, Nat.reduceMod, reduceCtorEq, f1]
      exact ⟨p % q, hlt, q, p % q, w, _, rfl, rfl, by rw [← hg, Nat.gcd_comm q, ← Nat.gcd_rec, Nat.gcd_comm], .inl hq0, hlq, Nat.le_trans (limbs_len_mono (Nat.le_of_lt hlt)) hlq, rfl⟩
    · by_cases h2 : (limbs p).length > 1
      · simp -implicitDefEqProofs (disch := omega) only [↓walk, plain, List.length_map, List.getElem?_map, Option.map_some, Nat.reduceBEq, decT, decF, iteT, iteF, wrap_ok, Int.reduceToNat, Int.reduceLE, Int.reduceLT, Int.reduceAdd, Int.reduceSub, Int.reduceNeg, reduceIte, Nat.reduceEqDiff, Nat.reduceAdd, Nat.reduceSub, Nat.reduceMul, Nat.reduceLeDiff, Nat.reduceShiftRight, Nat.reduceMod, reduceCtorEq, f0, f1]
        refine goCall_fc (k_impl_natDiv p q (by omega) (by omega) (by omega)) (by repeat (first | exact vws_nil | refine vws_cons ?_ ?_ | exact vw_bb | exact vw_ii | exact vw_ss | exact vw_ints | exact vw_ints0 | exact vw_nn | exact vw_n0 | exact vwl_nil | refine vwl_cons ?_ ?_ | refine vw_agg ?_ | refine vw_fn ?_ | assumption)) ?_
        simp -implicitDefEqProofs (disch := omega) only [↓walk, plain, List.length_map, List.getElem?_map, Option.map_some, Nat.reduceBEq, decT, decF, iteT, iteF, wrap_ok, Int.reduceToNat, Int.reduceLE, Int.reduceLT, Int.reduceAdd, Int.reduceSub, Int.reduceNeg, reduceIte, Nat.reduceEqDiff, Nat.reduceAdd, Nat.reduceSub, Nat.reduceMul, Nat.reduceLeDiff, Nat.reduceShiftRight, Nat.reduceMod, reduceCtorEq, f1]
        exact ⟨p % q, hlt, q, p % q, w, _, rfl, rfl, by rw [← hg, Nat.gcd_comm q, ← Nat.gcd_rec, Nat.gcd_comm], .inl hq0, hlq, Nat.le_trans (limbs_len_mono (Nat.le_of_lt hlt)) hlq, rfl⟩
      · have hp1 : p < 1000000000 := by
          have := limbs_len_lt.1 (show (limbs p).length ≤ 1 by omega)
          simp only [pw] at this; omega
        have hq1 : q < 1000000000 := by
          have := limbs_len_lt.1 (show (limbs q).length ≤ 1 by omega)
          simp only [pw] at this; omega
        simp -implicitDefEqProofs (disch := omega) only [↓walk, plain, List.length_map, List.getElem?_map, Option.map_some, Nat.reduceBEq, decT, decF, iteT, iteF, wrap_ok, Int.reduceToNat, Int.reduceLE, Int.reduceLT, Int.reduceAdd, Int.reduceSub, Int.reduceNeg, reduceIte, Nat.reduceEqDiff, Nat.reduceAdd, Nat.reduceSub, Nat.reduceMul, Nat.reduceLeDiff, Nat.reduceShiftRight, Nat.reduceMod, reduceCtorEq, f0, f1, limbs_small hpz hp1, limbs_small hq0 hq1, List.map_cons, List.map_nil]
        refine go_loopm 138538465100160 (by first | rfl | (simp only [mods, modsL, modsD, optB]; rfl)) (fun k fr H n => ∃ x y : Nat, fr 7 = .i .i64 x ∧ fr 8 = .i .i64 y ∧ Nat.gcd x y = Nat.gcd a b ∧ x < 1000000000 ∧ y < 1000000000 ∧ x ≠ 0 ∧ y = k) q ?_ ?_
        · simp -implicitDefEqProofs (disch := omega) only [↓walk, plain, List.length_map, List.getElem?_map, Option.map_some, Nat.reduceBEq, decT, decF, iteT, iteF, wrap_ok, Int.reduceToNat, Int.reduceLE, Int.reduceLT, Int.reduceAdd, Int.reduceSub, Int.reduceNeg, reduceIte, Nat.reduceEqDiff, Nat.reduceAdd, Nat.reduceSub, Nat.reduceMul, Nat.reduceLeDiff, Nat.reduceShiftRight, Nat.reduceMod, reduceCtorEq]
          exact ⟨p, q, rfl, rfl, hg, hp1, hq1, hpz, rfl⟩
        · rintro k2 fr2 H2 n2 ⟨x, y, f7, f8, hg2, hx1, hy1, hx0, rfl⟩
          by_cases hy : y = 0
          · subst hy
            rw [Nat.gcd_zero_right] at hg2
            simp -implicitDefEqProofs (disch := omega) only [↓walk, plain, List.length_map, List.getElem?_map, Option.map_some, Nat.reduceBEq, decT, decF, iteT, iteF, wrap_ok, Int.reduceToNat, Int.reduceLE, Int.reduceLT, Int.reduceAdd, Int.reduceSub, Int.reduceNeg, reduceIte, Nat.reduceEqDiff, Nat.reduceAdd, Nat.reduceSub, Nat.reduceMul, Nat.reduceLeDiff, Nat.reduceShiftRight, Nat.reduceMod, reduceCtorEq, f7, f8]
            rw [← hg2, limbs_small hx0 hx1]
            exact (fz_ints_rf (xs := [(x : Int)]) (by simp -implicitDefEqProofs (disch := omega) only [↓walk, plain, List.length_map, List.getElem?_map, Option.map_some, Nat.reduceBEq, decT, decF, iteT, iteF, wrap_ok, Int.reduceToNat, Int.reduceLE, Int.reduceLT, Int.reduceAdd, Int.reduceSub, Int.reduceNeg, reduceIte, Nat.reduceEqDiff, Nat.reduceAdd, Nat.reduceSub, Nat.reduceMul, Nat.reduceLeDiff, Nat.reduceShiftRight, Nat.reduceMod, reduceCtorEq]; rfl) rfl rfl).data (by simp)
          · have hlt2 := Nat.mod_lt x (show 0 < y by omega)
            have e2 : Int.tmod (x : Int) (y : Int) = ((x % y : Nat) : Int) := (Int.ofNat_tmod x y).symm
            simp -implicitDefEqProofs (disch := omega) only [↓walk, plain, List.length_map, List.getElem?_map, Option.map_some, Nat.reduceBEq, decT, decF, iteT, iteF, wrap_ok, Int.reduceToNat, Int.reduceLE, Int.reduceLT, Int.reduceAdd, Int.reduceSub, Int.reduceNeg, reduceIte, Nat.reduceEqDiff, Nat.reduceAdd, Nat.reduceSub, Nat.reduceMul, Nat.reduceLeDiff, Nat.reduceShiftRight, Nat.reduceMod, reduceCtorEq, f7, f8]
            exact ⟨x % y, hlt2, y, x % y, rfl, by rw [e2], by rw [← hg2, Nat.gcd_comm y, ← Nat.gcd_rec, Nat.gcd_comm], hy1, by omega, by omega, rfl⟩
end Go.Am
/-! Whole numbers and fractions as values of the machine. -/
namespace Go.Am
set_option linter.unusedVariables false
set_option linter.unusedSimpArgs false
/-- A whole number. -/
def bt (u : Option Nat) (z : Int) : AV := .agg [.b (decide (z < 0)), .sl u ((limbs z.natAbs).map (.i .i64))]
def bv (z : Int) : AV := bt none z
/-- A sign and a size. -/
def sgn (b : Bool) (m : Nat) : Int := if b then -(m : Int) else m
theorem sgn_abs {b : Bool} {m : Nat} : (sgn b m).natAbs = m := by cases b <;> simp [sgn]
theorem sgn_lt {b : Bool} {m : Nat} : decide (sgn b m < 0) = (b && decide (m ≠ 0)) := by
  cases b
  · simp [sgn]
  · simp only [sgn, if_true, Bool.true_and, decide_eq_decide]; omega
theorem sgn_self (z : Int) : sgn (decide (z < 0)) z.natAbs = z := by
  by_cases h : z < 0 <;> simp [sgn, h] <;> omega
theorem sgn_lim {b : Bool} {m : Nat} : Rat.num (mkRat (sgn b m) 1) = sgn b m := by simp [Rat.num_mkRat]

theorem sgn_mul {x y : Int} : sgn (decide (x < 0) != decide (y < 0)) (x.natAbs * y.natAbs) = x * y := by
  have e : ((x.natAbs * y.natAbs : Nat) : Int) = (x.natAbs : Int) * (y.natAbs : Int) := Int.natCast_mul _ _
  by_cases h1 : x < 0 <;> by_cases h2 : y < 0
  · simp only [sgn, decide_eq_true h1, decide_eq_true h2, bne_self_eq_false, Bool.false_eq_true, if_false, e]
    rw [show (x.natAbs : Int) = -x by omega, show (y.natAbs : Int) = -y by omega]; grind
  · rw [decide_eq_true h1, decide_eq_false h2, show sgn (true != false) (x.natAbs * y.natAbs) = -((x.natAbs * y.natAbs : Nat) : Int) from rfl, e]
    rw [show (x.natAbs : Int) = -x by omega, show (y.natAbs : Int) = y by omega]; grind
  · rw [decide_eq_false h1, decide_eq_true h2, show sgn (false != true) (x.natAbs * y.natAbs) = -((x.natAbs * y.natAbs : Nat) : Int) from rfl, e]
    rw [show (x.natAbs : Int) = x by omega, show (y.natAbs : Int) = -y by omega]; grind
  · rw [decide_eq_false h1, decide_eq_false h2, show sgn (false != false) (x.natAbs * y.natAbs) = ((x.natAbs * y.natAbs : Nat) : Int) from rfl, e]
    rw [show (x.natAbs : Int) = x by omega, show (y.natAbs : Int) = y by omega]
/-- A fraction that the program can hold: the limbs fit. -/
def Fits (q : Rat) : Prop := (limbs q.num.natAbs).length ≤ 24 ∧ (limbs q.den).length ≤ 24
instance (q : Rat) : Decidable (Fits q) := inferInstanceAs (Decidable (_ ∧ _))
/-- A fraction, or the value that is none. -/
def FQ : Type := {o : Option Rat // ∀ q, o = some q → Fits q}
namespace FQ
def void : FQ := ⟨none, fun q h => by cases h⟩
/-- A fraction, if its limbs fit. -/
def cap (q : Rat) : FQ := if h : Fits q then ⟨some q, fun r hr => by cases hr; exact h⟩ else void
def sg (p : FQ) : Bool := match p.1 with | some q => decide (q.num < 0) | none => false
def nm (p : FQ) : List Int := match p.1 with | some q => limbs q.num.natAbs | none => []
def dn (p : FQ) : List Int := match p.1 with | some q => limbs q.den | none => []
def nN (p : FQ) : Nat := match p.1 with | some q => q.num.natAbs | none => 0
def dN (p : FQ) : Nat := match p.1 with | some q => q.den | none => 0
def zN (p : FQ) : Int := match p.1 with | some q => q.num | none => 0
theorem nm_eq (p : FQ) : p.nm = limbs p.nN := by rcases p with ⟨_ | q, h⟩ <;> simp [nm, nN, limbs_zero]
theorem dn_eq (p : FQ) : p.dn = limbs p.dN := by rcases p with ⟨_ | q, h⟩ <;> simp [dn, dN, limbs_zero]
theorem sg_eq (p : FQ) : p.sg = decide (p.zN < 0) := by rcases p with ⟨_ | q, h⟩ <;> rfl
theorem nN_eq (p : FQ) : p.nN = p.zN.natAbs := by rcases p with ⟨_ | q, h⟩ <;> simp [nN, zN]
theorem nlen (p : FQ) : (limbs p.nN).length ≤ 24 := by
  rcases p with ⟨_ | q, h⟩
  · simp [nN, limbs_zero]
  · exact (h q rfl).1
theorem dlen (p : FQ) : (limbs p.dN).length ≤ 24 := by
  rcases p with ⟨_ | q, h⟩
  · simp [dN, limbs_zero]
  · exact (h q rfl).2
theorem zlen (p : FQ) : (limbs p.zN.natAbs).length ≤ 24 := by rw [← nN_eq]; exact p.nlen
def of (q : Rat) (h : Fits q) : FQ := ⟨some q, fun r hr => by cases hr; exact h⟩
theorem split (p : FQ) : p = void ∨ ∃ q : Rat, ∃ h : Fits q, p = of q h := by
  rcases p with ⟨_ | q, h⟩
  · exact .inl rfl
  · exact .inr ⟨q, h q rfl, rfl⟩
theorem void_sg : void.sg = false := rfl
theorem void_nm : void.nm = [] := rfl
theorem void_dn : void.dn = [] := rfl
theorem void_zN : void.zN = 0 := rfl
theorem mk_sg {q : Rat} {h : Fits q} : sg (of q h) = decide (q.num < 0) := rfl
theorem mk_nm {q : Rat} {h : Fits q} : nm (of q h) = limbs q.num.natAbs := rfl
theorem mk_dn {q : Rat} {h : Fits q} : dn (of q h) = limbs q.den := rfl
theorem mk_zN {q : Rat} {h : Fits q} : zN (of q h) = q.num := rfl
theorem mk_ne {q : Rat} (h : Fits q) : of q h ≠ void := fun e => by cases congrArg Subtype.val e
def lift1 (g : Rat → Option Rat) (p : FQ) : FQ := match p.1 with
  | some q => match g q with
    | some r => cap r
    | none => void
  | none => void
def lift2 (g : Rat → Rat → Option Rat) (p q : FQ) : FQ := match p.1, q.1 with
  | some a, some b => match g a b with
    | some r => cap r
    | none => void
  | _, _ => void
def neg (p : FQ) : FQ := lift1 (fun a => some (-a)) p
def add (p q : FQ) : FQ := lift2 (fun a b => some (a + b)) p q
def sub (p q : FQ) : FQ := lift2 (fun a b => some (a - b)) p q
def mul (p q : FQ) : FQ := lift2 (fun a b => some (a * b)) p q
def div (p q : FQ) : FQ := lift2 (fun a b => if b = 0 then none else some (a / b)) p q
open Classical in
noncomputable instance : DecidableEq FQ := fun _ _ => propDecidable _
theorem ext {p q : FQ} (h : p.1 = q.1) : p = q := Subtype.ext h
theorem cap_some {q : Rat} (h : Fits q) : (cap q).1 = some q := by simp [cap, h]
theorem cap_none {q : Rat} (h : ¬ Fits q) : cap q = void := by simp [cap, h]
/-- Every fraction is one that fits. -/
theorem cases' (p : FQ) : p = void ∨ ∃ q, Fits q ∧ p = cap q := by
  rcases p with ⟨_ | q, h⟩
  · exact .inl rfl
  · exact .inr ⟨q, h q rfl, ext (by rw [cap_some (h q rfl)])⟩
end FQ
/-- A fraction as a value; the slices may bear tags. -/
def qt (u w : Option Nat) (p : FQ) : AV := .agg [.b p.sg, .sl u (p.nm.map (.i .i64)), .sl w (p.dn.map (.i .i64))]
def qv (p : FQ) : AV := qt none none p
/-- A call whose result is a fraction in memory of its own. -/
def qtf (p : FQ) (n : Nat) : AV := qt (some n) (some (n + 1)) p
def QC (P : Program) (f : Nat) (args : List AV) (p : FQ) : Prop := PC P f args (qtf p) 2 False
/-- A call whose result is a whole number in memory of its own. -/
def btf (z : Int) (n : Nat) : AV := bt (some n) z
def BC (P : Program) (f : Nat) (args : List AV) (z : Int) : Prop := PC P f args (btf z) 1 False
section
variable {P : Program} {ks : List KF} {Q : AEx → St → Prop} {r : RT} {raw : Bool} {f : Nat} {args args' : List AV} {d : Nat} {fl : List Nat} {fr : Fr} {H : Heap} {n : Nat}
theorem goCall_bc {z : Int} (h : BC P f args' z) (hv : Vws H (fun _ => True) args args') (hk : goR P r ks Q ⟨fr.set d (bt (some n) z), H, n + 1⟩) : goCall P raw f args (some d) fl r ks Q ⟨fr, H, n⟩ := goCall_fc h hv hk
theorem goCall_qc {p : FQ} (h : QC P f args' p) (hv : Vws H (fun _ => True) args args') (hk : goR P r ks Q ⟨fr.set d (qt (some n) (some (n + 1)) p), H, n + 2⟩) : goCall P raw f args (some d) fl r ks Q ⟨fr, H, n⟩ := goCall_fc h hv hk
end

/-! Lowest terms. -/
theorem natAbs_ediv {z : Int} {g : Nat} (h : (g : Int) ∣ z) (hg : g ≠ 0) : (z / g).natAbs = z.natAbs / g := by
  obtain ⟨k, rfl⟩ := h
  rw [Int.mul_ediv_cancel_left _ (by omega), Int.natAbs_mul, Int.natAbs_natCast, Nat.mul_div_cancel_left _ (by omega)]
theorem ediv_neg_iff {z : Int} {g : Nat} (h : (g : Int) ∣ z) (hg : g ≠ 0) : (z / g < 0) ↔ z < 0 := by
  obtain ⟨k, rfl⟩ := h
  have : 0 < (g : Int) := by omega
  rw [Int.mul_ediv_cancel_left _ (by omega)]
  constructor
  · intro hk; exact Int.mul_neg_of_pos_of_neg this hk
  · intro hk
    rcases Int.lt_or_le k 0 with h | h
    · exact h
    · have := Int.mul_nonneg (Int.le_of_lt this) h; omega
theorem low_num {z : Int} {d : Nat} (hd : d ≠ 0) : (mkRat z d).num.natAbs = z.natAbs / Nat.gcd d z.natAbs := by
  have hg : Nat.gcd d z.natAbs ≠ 0 := fun h => hd (Nat.eq_zero_of_gcd_eq_zero_left h)
  rw [Rat.num_mkRat, if_neg hd]
  exact natAbs_ediv (Int.ofNat_dvd_left.2 (Nat.gcd_dvd_right d z.natAbs)) hg
theorem low_neg {z : Int} {d : Nat} (hd : d ≠ 0) : decide ((mkRat z d).num < 0) = decide (z < 0) := by
  have hg : Nat.gcd d z.natAbs ≠ 0 := fun h => hd (Nat.eq_zero_of_gcd_eq_zero_left h)
  rw [Rat.num_mkRat, if_neg hd, decide_eq_decide]
  exact ediv_neg_iff (Int.ofNat_dvd_left.2 (Nat.gcd_dvd_right d z.natAbs)) hg
theorem low_den {z : Int} {d : Nat} (hd : d ≠ 0) : (mkRat z d).den = d / Nat.gcd d z.natAbs := by
  rw [Rat.den_mkRat, if_neg hd]
theorem lenI_mul {a b : Int} {i k : Nat} (h1 : (limbs a.natAbs).length ≤ i) (h2 : (limbs b.natAbs).length ≤ k) : (limbs (a * b).natAbs).length ≤ i + k := by
  rw [Int.natAbs_mul]; exact limbs_mul_len h1 h2
theorem lenI_add {a b : Int} {k : Nat} (h1 : (limbs a.natAbs).length ≤ k) (h2 : (limbs b.natAbs).length ≤ k) : (limbs (a + b).natAbs).length ≤ k + 1 :=
  Nat.le_trans (limbs_len_mono (Int.natAbs_add_le a b)) (limbs_add_len h1 h2)
theorem limbs_one : limbs 1 = [1] := limbs_small (by omega) (by omega)
theorem one_iff {d : Nat} : limbs d = [1] ↔ d = 1 := ⟨fun h => limbs_inj (h.trans limbs_one.symm), fun h => by subst h; exact limbs_one⟩
theorem len0_iff {d : Nat} : (limbs d).length = 0 ↔ d = 0 := by rw [List.length_eq_zero_iff]; exact limbs_nil

theorem cap_sg {z : Int} {d : Nat} (hd : d ≠ 0) (hf : Fits (mkRat z d)) : (FQ.cap (mkRat z d)).sg = decide (z < 0) := by
  rw [FQ.sg, FQ.cap_some hf]; exact low_neg hd
theorem cap_nm {z : Int} {d : Nat} (hd : d ≠ 0) (hf : Fits (mkRat z d)) : (FQ.cap (mkRat z d)).nm = limbs (z.natAbs / Nat.gcd d z.natAbs) := by
  rw [FQ.nm, FQ.cap_some hf]; simp only [low_num hd]
theorem cap_dn {z : Int} {d : Nat} (hd : d ≠ 0) (hf : Fits (mkRat z d)) : (FQ.cap (mkRat z d)).dn = limbs (d / Nat.gcd d z.natAbs) := by
  rw [FQ.dn, FQ.cap_some hf]; simp only [low_den hd]
theorem fits_iff {z : Int} {d : Nat} (hd : d ≠ 0) : Fits (mkRat z d) ↔ (limbs (z.natAbs / Nat.gcd d z.natAbs)).length ≤ 24 ∧ (limbs (d / Nat.gcd d z.natAbs)).length ≤ 24 := by
  unfold Fits; rw [low_num hd, low_den hd]

/-! The operations on values that are fractions. -/
theorem FQ.add_cap {p q : FQ} {a b : Rat} (hp : p.1 = some a) (hq : q.1 = some b) : p.add q = cap (mkRat (a.num * b.den + b.num * a.den) (a.den * b.den)) := by
  simp only [add, lift2, hp, hq]
  rw [← Rat.mkRat_add_mkRat _ _ a.den_nz b.den_nz, Rat.mkRat_self, Rat.mkRat_self]
theorem FQ.mul_cap {p q : FQ} {a b : Rat} (hp : p.1 = some a) (hq : q.1 = some b) : p.mul q = cap (mkRat (a.num * b.num) (a.den * b.den)) := by
  simp only [mul, lift2, hp, hq]
  rw [← Rat.mkRat_mul_mkRat, Rat.mkRat_self, Rat.mkRat_self]
theorem mkRat_same {a b : Int} {d : Nat} (hd : d ≠ 0) : mkRat (a * d + b * d) (d * d) = mkRat (a + b) d := by
  rw [Rat.mkRat_eq_iff (Nat.mul_ne_zero hd hd) hd]
  rw [Int.natCast_mul]; grind
theorem FQ.add_same {p q : FQ} {a b : Rat} (hp : p.1 = some a) (hq : q.1 = some b) (h : a.den = b.den) : p.add q = cap (mkRat (a.num + b.num) a.den) := by
  rw [add_cap hp hq, ← h, mkRat_same a.den_nz]
theorem fits_neg {q : Rat} (h : Fits q) : Fits (-q) := by
  unfold Fits at *; rwa [Rat.neg_num, Rat.neg_den, Int.natAbs_neg]
theorem FQ.sub_eq {p q : FQ} : p.sub q = p.add q.neg := by
  rcases q with ⟨_ | b, hb⟩
  · rcases p with ⟨_ | a, ha⟩ <;> rfl
  · have e : (FQ.neg ⟨some b, hb⟩).1 = some (-b) := by
      simp only [neg, lift1]; exact cap_some (fits_neg (hb b rfl))
    rcases p with ⟨_ | a, ha⟩
    · simp only [sub, add, lift2]
    · simp only [sub, add, lift2, e, Rat.sub_eq_add_neg]
theorem limbs_pos_len {d : Nat} (h : d ≠ 0) : 0 < (limbs d).length := by
  rw [List.length_pos_iff]; exact fun e => h (limbs_nil.1 e)
end Go.Am
/-! Walks: whole numbers. -/
namespace Go.Am
set_option linter.unusedVariables false
set_option linter.unusedSimpArgs false
set_option maxRecDepth 10000
set_option maxHeartbeats 4000000
theorem data_bt {H : Heap} {t m : Nat} {z z' : Int} (h : z' = z) : Data (btf z) 1 False (bt (some t) z') H m := by
  subst h
  exact (fz_agg (fzl_cons fz_b (fzl_cons (fz_ints_sl rfl) fzl_nil))).data (by simp)
theorem norf_bt {u : Option Nat} {z : Int} : NoRf (bt u z) := .agg _ (norf_cons (.b _) (norf_cons norf_ints norf_nil))
theorem norf_qt {u w : Option Nat} {p : FQ} : NoRf (qt u w p) := .agg _ (norf_cons (.b _) (norf_cons norf_ints (norf_cons norf_ints norf_nil)))
theorem vw_bt {H : Heap} {S : Nat → Prop} {u : Option Nat} {z : Int} : Vw H S (fun _ _ => False) True (bt u z) (bv z) := vw_agg (vwl_cons vw_bb (vwl_cons vw_ints (vwl_nil)))
theorem vw_qt {H : Heap} {S : Nat → Prop} {u w : Option Nat} {p : FQ} : Vw H S (fun _ _ => False) True (qt u w p) (qv p) := vw_agg (vwl_cons vw_bb (vwl_cons vw_ints (vwl_cons vw_ints (vwl_nil))))
theorem bb : ((true == true) = true ∧ (true == false) = false ∧ (false == true) = false ∧ (false == false) = true) ∧ ((!true) = false ∧ (!false) = true) ∧ ((true != true) = false ∧ (true != false) = true ∧ (false != true) = true ∧ (false != false) = false) := by decide
theorem sgn_true {m : Nat} : sgn true m = -m := rfl
theorem sgn_false {m : Nat} : sgn false m = m := rfl
theorem limbs_le3 (m : Nat) (h : m < 9223372036854775808 * 1000000000) : (limbs m).length ≤ 4 := by rw [limbs_len_lt]; simp only [pw]; omega
/-- How two whole numbers compare. -/
def cmpZ (x y : Int) : Int := if x < y then -1 else if x = y then 0 else 1
def c_impl_signed : AF := ⟨12, .seq (.ops [⟨(some 4), .new (.agg [(.b false), .nl]), none, []⟩])
  (.seq (.seq (.ops [⟨(some 5), .mv (.t 1), none, []⟩,
   ⟨(some 6), .len (.t 5), none, []⟩,
   ⟨(some 7), .bin .eql (.t 6) (.c (.i .i64 0)), none, []⟩])
  (.cond (.t 7)
  (.seq (.ops [⟨(some 8), .bld [(.b false), .nl] [], none, []⟩,
    ⟨none, .st (some 2) (.t 4) (.t 8), none, []⟩])
   (.ret))
  (.skip)))
  (.seq (.ops [⟨(some 9), .mv (.t 0), none, []⟩,
   ⟨(some 10), .mv (.t 1), none, []⟩,
   ⟨(some 11), .bld [(.b false), .nl] [(0, 1, (.t 9)), (1, 1, (.t 10))], none, []⟩,
   ⟨none, .st (some 2) (.t 4) (.t 11), none, []⟩])
  (.ret))), [.cell (some 2) 4]⟩
def K_impl_signed (P : Program) (f : Nat) : Prop := ∀ (b : Bool) (m : Nat) (u : Option Nat), (limbs m).length < 9223372036854775808 → TC P f [.b b, .sl u ((limbs m).map (.i .i64))] (fun n n' v => v = bt u (sgn b m))
theorem t_impl_signed {P : Program} {f : Nat} (h : Has P f c_impl_signed) : K_impl_signed P f := by
  intro b m u hm
  refine tc_go h (by simp) fun n => ?_
  by_cases h0 : m = 0
  · subst h0
    simp -implicitDefEqProofs (disch := omega) only [↓walk, plain, List.length_map, List.getElem?_map, Option.map_some, Nat.reduceBEq, decT, decF, iteT, iteF, wrap_ok, Int.reduceToNat, Int.reduceLE, Int.reduceLT, Int.reduceAdd, Int.reduceSub, Int.reduceNeg, reduceIte, Nat.reduceEqDiff, Nat.reduceAdd, Nat.reduceSub, Nat.reduceMul, Nat.reduceLeDiff, Nat.reduceShiftRight, Nat.reduceMod, reduceCtorEq, limbs_zero, List.map_nil, List.length_nil]
    refine ⟨_, ?_, rfl⟩
    rw [bt, sgn_lt, sgn_abs, limbs_zero]
    simp only [ne_eq, not_true_eq_false, decide_false, Bool.and_false, List.map_nil]
    exact vw_agg (vwl_cons vw_bb (vwl_cons vw_n0 vwl_nil))
  · have hl := limbs_pos_len h0
    simp -implicitDefEqProofs (disch := omega) only [↓walk, plain, List.length_map, List.getElem?_map, Option.map_some, Nat.reduceBEq, decT, decF, iteT, iteF, wrap_ok, Int.reduceToNat, Int.reduceLE, Int.reduceLT, Int.reduceAdd, Int.reduceSub, Int.reduceNeg, reduceIte, Nat.reduceEqDiff, Nat.reduceAdd, Nat.reduceSub, Nat.reduceMul, Nat.reduceLeDiff, Nat.reduceShiftRight, Nat.reduceMod, reduceCtorEq]
    refine ⟨_, ?_, rfl⟩
    rw [bt, sgn_lt, sgn_abs, decide_eq_true h0, Bool.and_true]
    exact vw_agg (vwl_cons vw_bb (vwl_cons vwt_ints vwl_nil))
def c_impl_bigNeg (n_impl_copyInts : Nat) (n_impl_signed : Nat) : AF := ⟨10, .seq (.ops [⟨(some 1), .box (.t 0), none, []⟩,
   ⟨(some 2), .new (.agg [(.b false), .nl]), none, []⟩])
  (.seq (.opsd [(0, ⟨(some 3), .fad 0 (.t 1), none, []⟩),
   (1, ⟨(some 4), .ld none (.t 3), none, []⟩),
   (2, ⟨(some 5), .not (.t 4), none, []⟩),
   (3, ⟨(some 6), .fad 1 (.t 1), none, []⟩),
   (4, ⟨(some 7), .ld none (.t 6), none, []⟩),
   (5, ⟨(some 8), .call false n_impl_copyInts [(.t 7)], none, []⟩),
   (6, ⟨(some 9), .call true n_impl_signed [(.t 5), (.t 8)], none, []⟩),
   (7, ⟨none, .st (some 2) (.t 2) (.t 9), none, []⟩)])
  (.ret)), [.cell (some 2) 2]⟩
def K_impl_bigNeg (P : Program) (f : Nat) : Prop := ∀ z : Int, (limbs z.natAbs).length ≤ 4096 → BC P f [bv z] (-z)
theorem t_impl_bigNeg {P : Program} {f n_impl_copyInts n_impl_signed : Nat} (h : Has P f (c_impl_bigNeg n_impl_copyInts n_impl_signed)) (k_impl_copyInts : K_impl_copyInts P n_impl_copyInts) (k_impl_signed : K_impl_signed P n_impl_signed) : K_impl_bigNeg P f := by
  intro z hz
  refine pc_go h (by simp) ?_
  simp -implicitDefEqProofs (disch := omega) only [↓walk, plain, List.length_map, List.getElem?_map, Option.map_some, Nat.reduceBEq, decT, decF, iteT, iteF, wrap_ok, Int.reduceToNat, Int.reduceLE, Int.reduceLT, Int.reduceAdd, Int.reduceSub, Int.reduceNeg, reduceIte, Nat.reduceEqDiff, Nat.reduceAdd, Nat.reduceSub, Nat.reduceMul, Nat.reduceLeDiff, Nat.reduceShiftRight, Nat.reduceMod, reduceCtorEq, bv, bt]
  refine goCall_fc (OCI.fc (k_impl_copyInts (limbs z.natAbs) (by omega))) (by repeat (first | exact vws_nil | refine vws_cons ?_ ?_ | exact vw_bb | exact vw_ii | exact vw_ss | exact vw_ints | exact vw_ints0 | exact vw_nn | exact vw_n0 | exact vwl_nil | refine vwl_cons ?_ ?_ | refine vw_agg ?_ | refine vw_fn ?_ | assumption)) ?_
  simp -implicitDefEqProofs (disch := omega) only [↓walk, plain, List.length_map, List.getElem?_map, Option.map_some, Nat.reduceBEq, decT, decF, iteT, iteF, wrap_ok, Int.reduceToNat, Int.reduceLE, Int.reduceLT, Int.reduceAdd, Int.reduceSub, Int.reduceNeg, reduceIte, Nat.reduceEqDiff, Nat.reduceAdd, Nat.reduceSub, Nat.reduceMul, Nat.reduceLeDiff, Nat.reduceShiftRight, Nat.reduceMod, reduceCtorEq]
  refine goCall_tc (k_impl_signed _ z.natAbs _ (by omega)) (by repeat (first | exact norf_nil | refine norf_cons ?_ ?_ | exact .b _ | exact .i _ _ | exact .s _ | exact norf_ints | exact norf_ints0 | exact norf_bt | exact norf_qt | exact .nl)) ?_
  rintro v n' hn rfl
  simp -implicitDefEqProofs (disch := omega) only [↓walk, plain, List.length_map, List.getElem?_map, Option.map_some, Nat.reduceBEq, decT, decF, iteT, iteF, wrap_ok, Int.reduceToNat, Int.reduceLE, Int.reduceLT, Int.reduceAdd, Int.reduceSub, Int.reduceNeg, reduceIte, Nat.reduceEqDiff, Nat.reduceAdd, Nat.reduceSub, Nat.reduceMul, Nat.reduceLeDiff, Nat.reduceShiftRight, Nat.reduceMod, reduceCtorEq, bt]
  refine data_bt ?_
  by_cases hz : z < 0 <;> simp [sgn, hz] <;> omega
def c_impl_bigAdd (n_impl_natAdd : Nat) (n_impl_signed : Nat) (n_impl_natCmp : Nat) (n_impl_natSub : Nat) : AF := ⟨42, .seq (.ops [⟨(some 2), .box (.t 0), none, []⟩,
   ⟨(some 3), .box (.t 1), none, []⟩,
   ⟨(some 4), .new (.agg [(.b false), .nl]), none, []⟩])
  (.seq (.block 0 (.seq (.ops [⟨(some 6), .fad 0 (.t 2), none, []⟩,
   ⟨(some 7), .ld none (.t 6), none, []⟩,
   ⟨(some 8), .fad 0 (.t 3), none, []⟩,
   ⟨(some 9), .ld none (.t 8), none, []⟩,
   ⟨(some 10), .beq false (.t 7) (.t 9), none, []⟩,
   ⟨(some 5), .mv (.t 10), none, []⟩])
  (.cond (.t 5)
  (.seq (.opsd [(0, ⟨(some 11), .fad 0 (.t 2), none, []⟩),
    (1, ⟨(some 12), .ld none (.t 11), none, []⟩),
    (2, ⟨(some 13), .fad 1 (.t 2), none, []⟩),
    (3, ⟨(some 14), .ld none (.t 13), none, []⟩),
    (4, ⟨(some 15), .fad 1 (.t 3), none, []⟩),
    (5, ⟨(some 16), .ld none (.t 15), none, []⟩),
    (6, ⟨(some 17), .call false n_impl_natAdd [(.t 14), (.t 16)], none, []⟩),
    (7, ⟨(some 18), .call true n_impl_signed [(.t 12), (.t 17)], none, []⟩),
    (8, ⟨none, .st (some 2) (.t 4) (.t 18), none, []⟩)])
   (.ret))
  (.seq (.ops [⟨(some 20), .fad 1 (.t 2), none, []⟩,
    ⟨(some 21), .ld none (.t 20), none, []⟩,
    ⟨(some 22), .fad 1 (.t 3), none, []⟩,
    ⟨(some 23), .ld none (.t 22), none, []⟩,
    ⟨(some 24), .call true n_impl_natCmp [(.t 21), (.t 23)], none, []⟩,
    ⟨(some 25), .bin .geq (.t 24) (.c (.i .i64 0)), none, []⟩,
    ⟨(some 19), .mv (.t 25), none, []⟩])
   (.cond (.t 19)
   (.seq (.opsd [(0, ⟨(some 26), .fad 0 (.t 2), none, []⟩),
     (1, ⟨(some 27), .ld none (.t 26), none, []⟩),
     (2, ⟨(some 28), .fad 1 (.t 2), none, []⟩),
     (3, ⟨(some 29), .ld none (.t 28), none, []⟩),
     (4, ⟨(some 30), .fad 1 (.t 3), none, []⟩),
     (5, ⟨(some 31), .ld none (.t 30), none, []⟩),
     (6, ⟨(some 32), .call false n_impl_natSub [(.t 29), (.t 31)], none, []⟩),
     (7, ⟨(some 33), .call true n_impl_signed [(.t 27), (.t 32)], none, []⟩),
     (8, ⟨none, .st (some 2) (.t 4) (.t 33), none, []⟩)])
    (.ret))
   (.skip))))))
  (.seq (.opsd [(0, ⟨(some 34), .fad 0 (.t 3), none, []⟩),
   (1, ⟨(some 35), .ld none (.t 34), none, []⟩),
   (2, ⟨(some 36), .fad 1 (.t 3), none, []⟩),
   (3, ⟨(some 37), .ld none (.t 36), none, []⟩),
   (4, ⟨(some 38), .fad 1 (.t 2), none, []⟩),
   (5, ⟨(some 39), .ld none (.t 38), none, []⟩),
   (6, ⟨(some 40), .call false n_impl_natSub [(.t 37), (.t 39)], none, []⟩),
   (7, ⟨(some 41), .call true n_impl_signed [(.t 35), (.t 40)], none, []⟩),
   (8, ⟨none, .st (some 2) (.t 4) (.t 41), none, []⟩)])
  (.ret))), [.cell (some 2) 4]⟩
def K_impl_bigAdd (P : Program) (f : Nat) : Prop := ∀ x y : Int, (limbs x.natAbs).length ≤ 4096 → (limbs y.natAbs).length ≤ 4096 → BC P f [bv x, bv y] (x + y)
theorem t_impl_bigAdd {P : Program} {f n_impl_natAdd n_impl_signed n_impl_natCmp n_impl_natSub : Nat} (h : Has P f (c_impl_bigAdd n_impl_natAdd n_impl_signed n_impl_natCmp n_impl_natSub)) (k_impl_natAdd : K_impl_natAdd P n_impl_natAdd) (k_impl_signed : K_impl_signed P n_impl_signed) (k_impl_natCmp : K_impl_natCmp P n_impl_natCmp) (k_impl_natSub : K_impl_natSub P n_impl_natSub) : K_impl_bigAdd P f := by
  intro x y hx hy
  refine pc_go h (by simp) ?_
  have hg := @cmpN_ge0 x.natAbs y.natAbs
  by_cases h1 : x < 0 <;> by_cases h2 : y < 0
  · simp -implicitDefEqProofs (disch := omega) only [↓walk, plain, List.length_map, List.getElem?_map, Option.map_some, Nat.reduceBEq, decT, decF, iteT, iteF, wrap_ok, Int.reduceToNat, Int.reduceLE, Int.reduceLT, Int.reduceAdd, Int.reduceSub, Int.reduceNeg, reduceIte, Nat.reduceEqDiff, Nat.reduceAdd, Nat.reduceSub, Nat.reduceMul, Nat.reduceLeDiff, Nat.reduceShiftRight, Nat.reduceMod, reduceCtorEq, bv, bt, decide_eq_true h1, decide_eq_true h2, bb]
    refine goCall_fc (OCI.fc (k_impl_natAdd x.natAbs y.natAbs (by omega) (by omega))) (by repeat (first | exact vws_nil | refine vws_cons ?_ ?_ | exact vw_bb | exact vw_ii | exact vw_ss | exact vw_ints | exact vw_ints0 | exact vw_nn | exact vw_n0 | exact vwl_nil | refine vwl_cons ?_ ?_ | refine vw_agg ?_ | refine vw_fn ?_ | assumption)) ?_
    simp -implicitDefEqProofs (disch := omega) only [↓walk, plain, List.length_map, List.getElem?_map, Option.map_some, Nat.reduceBEq, decT, decF, iteT, iteF, wrap_ok, Int.reduceToNat, Int.reduceLE, Int.reduceLT, Int.reduceAdd, Int.reduceSub, Int.reduceNeg, reduceIte, Nat.reduceEqDiff, Nat.reduceAdd, Nat.reduceSub, Nat.reduceMul, Nat.reduceLeDiff, Nat.reduceShiftRight, Nat.reduceMod, reduceCtorEq]
    refine goCall_tc (k_impl_signed _ (x.natAbs + y.natAbs) _ (by have := limbs_add_len hx hy; omega)) (by repeat (first | exact norf_nil | refine norf_cons ?_ ?_ | exact .b _ | exact .i _ _ | exact .s _ | exact norf_ints | exact norf_ints0 | exact norf_bt | exact norf_qt | exact .nl)) ?_
    rintro v n' hn rfl
    simp -implicitDefEqProofs (disch := omega) only [↓walk, plain, List.length_map, List.getElem?_map, Option.map_some, Nat.reduceBEq, decT, decF, iteT, iteF, wrap_ok, Int.reduceToNat, Int.reduceLE, Int.reduceLT, Int.reduceAdd, Int.reduceSub, Int.reduceNeg, reduceIte, Nat.reduceEqDiff, Nat.reduceAdd, Nat.reduceSub, Nat.reduceMul, Nat.reduceLeDiff, Nat.reduceShiftRight, Nat.reduceMod, reduceCtorEq, bt]
    refine data_bt ?_
    rw [sgn_true]; omega
  · simp -implicitDefEqProofs (disch := omega) only [↓walk, plain, List.length_map, List.getElem?_map, Option.map_some, Nat.reduceBEq, decT, decF, iteT, iteF, wrap_ok, Int.reduceToNat, Int.reduceLE, Int.reduceLT, Int.reduceAdd, Int.reduceSub, Int.reduceNeg, reduceIte, Nat.reduceEqDiff, Nat.reduceAdd, Nat.reduceSub, Nat.reduceMul, Nat.reduceLeDiff, Nat.reduceShiftRight, Nat.reduceMod, reduceCtorEq, bv, bt, decide_eq_true h1, decide_eq_false h2, bb]
    refine goCall_sc (k_impl_natCmp x.natAbs y.natAbs (by omega) (by omega)) (by repeat (first | exact vws_nil | refine vws_cons ?_ ?_ | exact vw_bb | exact vw_ii | exact vw_ss | exact vw_ints | exact vw_ints0 | exact vw_nn | exact vw_n0 | exact vwl_nil | refine vwl_cons ?_ ?_ | refine vw_agg ?_ | refine vw_fn ?_ | assumption)) ?_
    by_cases h3 : y.natAbs ≤ x.natAbs
    · simp -implicitDefEqProofs (disch := omega) only [↓walk, plain, List.length_map, List.getElem?_map, Option.map_some, Nat.reduceBEq, decT, decF, iteT, iteF, wrap_ok, Int.reduceToNat, Int.reduceLE, Int.reduceLT, Int.reduceAdd, Int.reduceSub, Int.reduceNeg, reduceIte, Nat.reduceEqDiff, Nat.reduceAdd, Nat.reduceSub, Nat.reduceMul, Nat.reduceLeDiff, Nat.reduceShiftRight, Nat.reduceMod, reduceCtorEq]
      refine goCall_fc (OCI.fc (k_impl_natSub x.natAbs y.natAbs (by omega) (by omega) (by omega))) (by repeat (first | exact vws_nil | refine vws_cons ?_ ?_ | exact vw_bb | exact vw_ii | exact vw_ss | exact vw_ints | exact vw_ints0 | exact vw_nn | exact vw_n0 | exact vwl_nil | refine vwl_cons ?_ ?_ | refine vw_agg ?_ | refine vw_fn ?_ | assumption)) ?_
      simp -implicitDefEqProofs (disch := omega) only [↓walk, plain, List.length_map, List.getElem?_map, Option.map_some, Nat.reduceBEq, decT, decF, iteT, iteF, wrap_ok, Int.reduceToNat, Int.reduceLE, Int.reduceLT, Int.reduceAdd, Int.reduceSub, Int.reduceNeg, reduceIte, Nat.reduceEqDiff, Nat.reduceAdd, Nat.reduceSub, Nat.reduceMul, Nat.reduceLeDiff, Nat.reduceShiftRight, Nat.reduceMod, reduceCtorEq]
      refine goCall_tc (k_impl_signed _ (x.natAbs - y.natAbs) _ (by have := limbs_len_mono (Nat.sub_le x.natAbs y.natAbs); omega)) (by repeat (first | exact norf_nil | refine norf_cons ?_ ?_ | exact .b _ | exact .i _ _ | exact .s _ | exact norf_ints | exact norf_ints0 | exact norf_bt | exact norf_qt | exact .nl)) ?_
      rintro v n' hn rfl
      simp -implicitDefEqProofs (disch := omega) only [↓walk, plain, List.length_map, List.getElem?_map, Option.map_some, Nat.reduceBEq, decT, decF, iteT, iteF, wrap_ok, Int.reduceToNat, Int.reduceLE, Int.reduceLT, Int.reduceAdd, Int.reduceSub, Int.reduceNeg, reduceIte, Nat.reduceEqDiff, Nat.reduceAdd, Nat.reduceSub, Nat.reduceMul, Nat.reduceLeDiff, Nat.reduceShiftRight, Nat.reduceMod, reduceCtorEq, bt]
      refine data_bt ?_
      rw [sgn_true]; omega
    · simp -implicitDefEqProofs (disch := omega) only [↓walk, plain, List.length_map, List.getElem?_map, Option.map_some, Nat.reduceBEq, decT, decF, iteT, iteF, wrap_ok, Int.reduceToNat, Int.reduceLE, Int.reduceLT, Int.reduceAdd, Int.reduceSub, Int.reduceNeg, reduceIte, Nat.reduceEqDiff, Nat.reduceAdd, Nat.reduceSub, Nat.reduceMul, Nat.reduceLeDiff, Nat.reduceShiftRight, Nat.reduceMod, reduceCtorEq]
      refine goCall_fc (OCI.fc (k_impl_natSub y.natAbs x.natAbs (by omega) (by omega) (by omega))) (by repeat (first | exact vws_nil | refine vws_cons ?_ ?_ | exact vw_bb | exact vw_ii | exact vw_ss | exact vw_ints | exact vw_ints0 | exact vw_nn | exact vw_n0 | exact vwl_nil | refine vwl_cons ?_ ?_ | refine vw_agg ?_ | refine vw_fn ?_ | assumption)) ?_
      simp -implicitDefEqProofs (disch := omega) only [↓walk, plain, List.length_map, List.getElem?_map, Option.map_some, Nat.reduceBEq, decT, decF, iteT, iteF, wrap_ok, Int.reduceToNat, Int.reduceLE, Int.reduceLT, Int.reduceAdd, Int.reduceSub, Int.reduceNeg, reduceIte, Nat.reduceEqDiff, Nat.reduceAdd, Nat.reduceSub, Nat.reduceMul, Nat.reduceLeDiff, Nat.reduceShiftRight, Nat.reduceMod, reduceCtorEq]
      refine goCall_tc (k_impl_signed _ (y.natAbs - x.natAbs) _ (by have := limbs_len_mono (Nat.sub_le y.natAbs x.natAbs); omega)) (by repeat (first | exact norf_nil | refine norf_cons ?_ ?_ | exact .b _ | exact .i _ _ | exact .s _ | exact norf_ints | exact norf_ints0 | exact norf_bt | exact norf_qt | exact .nl)) ?_
      rintro v n' hn rfl
      simp -implicitDefEqProofs (disch := omega) only [↓walk, plain, List.length_map, List.getElem?_map, Option.map_some, Nat.reduceBEq, decT, decF, iteT, iteF, wrap_ok, Int.reduceToNat, Int.reduceLE, Int.reduceLT, Int.reduceAdd, Int.reduceSub, Int.reduceNeg, reduceIte, Nat.reduceEqDiff, Nat.reduceAdd, Nat.reduceSub, Nat.reduceMul, Nat.reduceLeDiff, Nat.reduceShiftRight, Nat.reduceMod, reduceCtorEq, bt]
      refine data_bt ?_
      rw [sgn_false]; omega
  · simp -implicitDefEqProofs (disch := omega) only [↓walk, plain, List.length_map, List.getElem?_map, Option.map_some, Nat.reduceBEq, decT, decF, iteT, iteF, wrap_ok, Int.reduceToNat, Int.reduceLE, Int.reduceLT, Int.reduceAdd, Int.reduceSub, Int.reduceNeg, reduceIte, Nat.reduceEqDiff, Nat.reduceAdd, Nat.reduceSub, Nat.reduceMul, Nat.reduceLeDiff, Nat.reduceShiftRight, Nat.reduceMod, reduceCtorEq, bv, bt, decide_eq_false h1, decide_eq_true h2, bb]
    refine goCall_sc (k_impl_natCmp x.natAbs y.natAbs (by omega) (by omega)) (by repeat (first | exact vws_nil | refine vws_cons ?_ ?_ | exact vw_bb | exact vw_ii | exact vw_ss | exact vw_ints | exact vw_ints0 | exact vw_nn | exact vw_n0 | exact vwl_nil | refine vwl_cons ?_ ?_ | refine vw_agg ?_ | refine vw_fn ?_ | assumption)) ?_
    by_cases h3 : y.natAbs ≤ x.natAbs
    · simp -implicitDefEqProofs (disch := omega) only [↓walk, plain, List.length_map, List.getElem?_map, Option.map_some, Nat.reduceBEq, decT, decF, iteT, iteF, wrap_ok, Int.reduceToNat, Int.reduceLE, Int.reduceLT, Int.reduceAdd, Int.reduceSub, Int.reduceNeg, reduceIte, Nat.reduceEqDiff, Nat.reduceAdd, Nat.reduceSub, Nat.reduceMul, Nat.reduceLeDiff, Nat.reduceShiftRight, Nat.reduceMod, reduceCtorEq]
      refine goCall_fc (OCI.fc (k_impl_natSub x.natAbs y.natAbs (by omega) (by omega) (by omega))) (by repeat (first | exact vws_nil | refine vws_cons ?_ ?_ | exact vw_bb | exact vw_ii | exact vw_ss | exact vw_ints | exact vw_ints0 | exact vw_nn | exact vw_n0 | exact vwl_nil | refine vwl_cons ?_ ?_ | refine vw_agg ?_ | refine vw_fn ?_ | assumption)) ?_
      simp -implicitDefEqProofs (disch := omega) only [↓walk, plain, List.length_map, List.getElem?_map, Option.map_some, Nat.reduceBEq, decT, decF, iteT, iteF, wrap_ok, Int.reduceToNat, Int.reduceLE, Int.reduceLT, Int.reduceAdd, Int.reduceSub, Int.reduceNeg, reduceIte, Nat.reduceEqDiff, Nat.reduceAdd, Nat.reduceSub, Nat.reduceMul, Nat.reduceLeDiff, Nat.reduceShiftRight, Nat.reduceMod, reduceCtorEq]
      refine goCall_tc (k_impl_signed _ (x.natAbs - y.natAbs) _ (by have := limbs_len_mono (Nat.sub_le x.natAbs y.natAbs); omega)) (by repeat (first | exact norf_nil | refine norf_cons ?_ ?_ | exact .b _ | exact .i _ _ | exact .s _ | exact norf_ints | exact norf_ints0 | exact norf_bt | exact norf_qt | exact .nl)) ?_
      rintro v n' hn rfl
      simp -implicitDefEqProofs (disch := omega) only [↓walk, plain, List.length_map, List.getElem?_map, Option.map_some, Nat.reduceBEq, decT, decF, iteT, iteF, wrap_ok, Int.reduceToNat, Int.reduceLE, Int.reduceLT, Int.reduceAdd, Int.reduceSub, Int.reduceNeg, reduceIte, Nat.reduceEqDiff, Nat.reduceAdd, Nat.reduceSub, Nat.reduceMul, Nat.reduceLeDiff, Nat.reduceShiftRight, Nat.reduceMod, reduceCtorEq, bt]
      refine data_bt ?_
      rw [sgn_false]; omega
    · simp -implicitDefEqProofs (disch := omega) only [↓walk, plain, List.length_map, List.getElem?_map, Option.map_some, Nat.reduceBEq, decT, decF, iteT, iteF, wrap_ok, Int.reduceToNat, Int.reduceLE, Int.reduceLT, Int.reduceAdd, Int.reduceSub, Int.reduceNeg, reduceIte, Nat.reduceEqDiff, Nat.reduceAdd, Nat.reduceSub, Nat.reduceMul, Nat.reduceLeDiff, Nat.reduceShiftRight, Nat.reduceMod, reduceCtorEq]
      refine goCall_fc (OCI.fc (k_impl_natSub y.natAbs x.natAbs (by omega) (by omega) (by omega))) (by repeat (first | exact vws_nil | refine vws_cons ?_ ?_ | exact vw_bb | exact vw_ii | exact vw_ss | exact vw_ints | exact vw_ints0 | exact vw_nn | exact vw_n0 | exact vwl_nil | refine vwl_cons ?_ ?_ | refine vw_agg ?_ | refine vw_fn ?_ | assumption)) ?_
      simp -implicitDefEqProofs (disch := omega) only [↓walk, plain, List.length_map, List.getElem?_map, Option.map_some, Nat.reduceBEq, decT, decF, iteT, iteF, wrap_ok, Int.reduceToNat, Int.reduceLE, Int.reduceLT, Int.reduceAdd, Int.reduceSub, Int.reduceNeg, reduceIte, Nat.reduceEqDiff, Nat.reduceAdd, Nat.reduceSub, Nat.reduceMul, Nat.reduceLeDiff, Nat.reduceShiftRight, Nat.reduceMod, reduceCtorEq]
      refine goCall_tc (k_impl_signed _ (y.natAbs - x.natAbs) _ (by have := limbs_len_mono (Nat.sub_le y.natAbs x.natAbs); omega)) (by repeat (first | exact norf_nil | refine norf_cons ?_ ?_ | exact .b _ | exact .i _ _ | exact .s _ | exact norf_ints | exact norf_ints0 | exact norf_bt | exact norf_qt | exact .nl)) ?_
      rintro v n' hn rfl
      simp -implicitDefEqProofs (disch := omega) only [↓walk, plain, List.length_map, List.getElem?_map, Option.map_some, Nat.reduceBEq, decT, decF, iteT, iteF, wrap_ok, Int.reduceToNat, Int.reduceLE, Int.reduceLT, Int.reduceAdd, Int.reduceSub, Int.reduceNeg, reduceIte, Nat.reduceEqDiff, Nat.reduceAdd, Nat.reduceSub, Nat.reduceMul, Nat.reduceLeDiff, Nat.reduceShiftRight, Nat.reduceMod, reduceCtorEq, bt]
      refine data_bt ?_
      rw [sgn_true]; omega
  · simp -implicitDefEqProofs (disch := omega) only [↓walk, plain, List.length_map, List.getElem?_map, Option.map_some, Nat.reduceBEq, decT, decF, iteT, iteF, wrap_ok, Int.reduceToNat, Int.reduceLE, Int.reduceLT, Int.reduceAdd, Int.reduceSub, Int.reduceNeg, reduceIte, Nat.reduceEqDiff, Nat.reduceAdd, Nat.reduceSub, Nat.reduceMul, Nat.reduceLeDiff, Nat.reduceShiftRight, Nat.reduceMod, reduceCtorEq, bv, bt, decide_eq_false h1, decide_eq_false h2, bb]
    refine goCall_fc (OCI.fc (k_impl_natAdd x.natAbs y.natAbs (by omega) (by omega))) (by repeat (first | exact vws_nil | refine vws_cons ?_ ?_ | exact vw_bb | exact vw_ii | exact vw_ss | exact vw_ints | exact vw_ints0 | exact vw_nn | exact vw_n0 | exact vwl_nil | refine vwl_cons ?_ ?_ | refine vw_agg ?_ | refine vw_fn ?_ | assumption)) ?_
    simp -implicitDefEqProofs (disch := omega) only [↓walk, plain, List.length_map, List.getElem?_map, Option.map_some, Nat.reduceBEq, decT, decF, iteT, iteF, wrap_ok, Int.reduceToNat, Int.reduceLE, Int.reduceLT, Int.reduceAdd, Int.reduceSub, Int.reduceNeg, reduceIte, Nat.reduceEqDiff, Nat.reduceAdd, Nat.reduceSub, Nat.reduceMul, Nat.reduceLeDiff, Nat.reduceShiftRight, Nat.reduceMod, reduceCtorEq]
    refine goCall_tc (k_impl_signed _ (x.natAbs + y.natAbs) _ (by have := limbs_add_len hx hy; omega)) (by repeat (first | exact norf_nil | refine norf_cons ?_ ?_ | exact .b _ | exact .i _ _ | exact .s _ | exact norf_ints | exact norf_ints0 | exact norf_bt | exact norf_qt | exact .nl)) ?_
    rintro v n' hn rfl
    simp -implicitDefEqProofs (disch := omega) only [↓walk, plain, List.length_map, List.getElem?_map, Option.map_some, Nat.reduceBEq, decT, decF, iteT, iteF, wrap_ok, Int.reduceToNat, Int.reduceLE, Int.reduceLT, Int.reduceAdd, Int.reduceSub, Int.reduceNeg, reduceIte, Nat.reduceEqDiff, Nat.reduceAdd, Nat.reduceSub, Nat.reduceMul, Nat.reduceLeDiff, Nat.reduceShiftRight, Nat.reduceMod, reduceCtorEq, bt]
    refine data_bt ?_
    rw [sgn_false]; omega
def c_impl_bigMul (n_impl_natMul : Nat) (n_impl_signed : Nat) : AF := ⟨16, .seq (.ops [⟨(some 2), .box (.t 0), none, []⟩,
   ⟨(some 3), .box (.t 1), none, []⟩,
   ⟨(some 4), .new (.agg [(.b false), .nl]), none, []⟩])
  (.seq (.opsd [(0, ⟨(some 5), .fad 0 (.t 2), none, []⟩),
   (1, ⟨(some 6), .ld none (.t 5), none, []⟩),
   (2, ⟨(some 7), .fad 0 (.t 3), none, []⟩),
   (3, ⟨(some 8), .ld none (.t 7), none, []⟩),
   (4, ⟨(some 9), .beq true (.t 6) (.t 8), none, []⟩),
   (5, ⟨(some 10), .fad 1 (.t 2), none, []⟩),
   (6, ⟨(some 11), .ld none (.t 10), none, []⟩),
   (7, ⟨(some 12), .fad 1 (.t 3), none, []⟩),
   (8, ⟨(some 13), .ld none (.t 12), none, []⟩),
   (9, ⟨(some 14), .call false n_impl_natMul [(.t 11), (.t 13)], none, []⟩),
   (10, ⟨(some 15), .call true n_impl_signed [(.t 9), (.t 14)], none, []⟩),
   (11, ⟨none, .st (some 2) (.t 4) (.t 15), none, []⟩)])
  (.ret)), [.cell (some 2) 4]⟩
def K_impl_bigMul (P : Program) (f : Nat) : Prop := ∀ x y : Int, (limbs x.natAbs).length ≤ 4096 → (limbs y.natAbs).length ≤ 4096 → BC P f [bv x, bv y] (x * y)
theorem t_impl_bigMul {P : Program} {f n_impl_natMul n_impl_signed : Nat} (h : Has P f (c_impl_bigMul n_impl_natMul n_impl_signed)) (k_impl_natMul : K_impl_natMul P n_impl_natMul) (k_impl_signed : K_impl_signed P n_impl_signed) : K_impl_bigMul P f := by
  intro x y hx hy
  refine pc_go h (by simp) ?_
  simp -implicitDefEqProofs (disch := omega) only [↓walk, plain, List.length_map, List.getElem?_map, Option.map_some, Nat.reduceBEq, decT, decF, iteT, iteF, wrap_ok, Int.reduceToNat, Int.reduceLE, Int.reduceLT, Int.reduceAdd, Int.reduceSub, Int.reduceNeg, reduceIte, Nat.reduceEqDiff, Nat.reduceAdd, Nat.reduceSub, Nat.reduceMul, Nat.reduceLeDiff, Nat.reduceShiftRight, Nat.reduceMod, reduceCtorEq, bv, bt]
  refine goCall_fc (OCI.fc (k_impl_natMul x.natAbs y.natAbs (by omega) (by omega))) (by repeat (first | exact vws_nil | refine vws_cons ?_ ?_ | exact vw_bb | exact vw_ii | exact vw_ss | exact vw_ints | exact vw_ints0 | exact vw_nn | exact vw_n0 | exact vwl_nil | refine vwl_cons ?_ ?_ | refine vw_agg ?_ | refine vw_fn ?_ | assumption)) ?_
  simp -implicitDefEqProofs (disch := omega) only [↓walk, plain, List.length_map, List.getElem?_map, Option.map_some, Nat.reduceBEq, decT, decF, iteT, iteF, wrap_ok, Int.reduceToNat, Int.reduceLE, Int.reduceLT, Int.reduceAdd, Int.reduceSub, Int.reduceNeg, reduceIte, Nat.reduceEqDiff, Nat.reduceAdd, Nat.reduceSub, Nat.reduceMul, Nat.reduceLeDiff, Nat.reduceShiftRight, Nat.reduceMod, reduceCtorEq]
  refine goCall_tc (k_impl_signed _ (x.natAbs * y.natAbs) _ (by have := limbs_mul_len hx hy; omega)) (by repeat (first | exact norf_nil | refine norf_cons ?_ ?_ | exact .b _ | exact .i _ _ | exact .s _ | exact norf_ints | exact norf_ints0 | exact norf_bt | exact norf_qt | exact .nl)) ?_
  rintro v n' hn rfl
  simp -implicitDefEqProofs (disch := omega) only [↓walk, plain, List.length_map, List.getElem?_map, Option.map_some, Nat.reduceBEq, decT, decF, iteT, iteF, wrap_ok, Int.reduceToNat, Int.reduceLE, Int.reduceLT, Int.reduceAdd, Int.reduceSub, Int.reduceNeg, reduceIte, Nat.reduceEqDiff, Nat.reduceAdd, Nat.reduceSub, Nat.reduceMul, Nat.reduceLeDiff, Nat.reduceShiftRight, Nat.reduceMod, reduceCtorEq, bt]
  refine data_bt ?_
  exact sgn_mul
def c_impl_bigCmp (n_impl_natCmp : Nat) : AF := ⟨34, .seq (.ops [⟨(some 2), .box (.t 0), none, []⟩,
   ⟨(some 3), .box (.t 1), none, []⟩,
   ⟨(some 4), .mv (.c (.i .i64 0)), none, []⟩])
  (.seq (.block 0 (.seq (.ops [⟨(some 6), .fad 0 (.t 2), none, []⟩,
   ⟨(some 7), .ld none (.t 6), none, []⟩,
   ⟨(some 8), .fad 0 (.t 3), none, []⟩,
   ⟨(some 9), .ld none (.t 8), none, []⟩,
   ⟨(some 10), .beq true (.t 7) (.t 9), none, []⟩,
   ⟨(some 11), .mv (.t 10), none, []⟩,
   ⟨(some 12), .fad 0 (.t 2), some (11, true), []⟩,
   ⟨(some 13), .ld none (.t 12), some (11, true), []⟩,
   ⟨(some 14), .pick (.t 11) (.t 13) (.c (.b false)), none, []⟩,
   ⟨(some 5), .mv (.t 14), none, []⟩])
  (.cond (.t 5)
  (.seq (.ops [⟨(some 4), .mv (.c (.i .i64 (-1))), none, []⟩])
   (.ret))
  (.seq (.ops [⟨(some 16), .fad 0 (.t 2), none, []⟩,
    ⟨(some 17), .ld none (.t 16), none, []⟩,
    ⟨(some 18), .fad 0 (.t 3), none, []⟩,
    ⟨(some 19), .ld none (.t 18), none, []⟩,
    ⟨(some 20), .beq true (.t 17) (.t 19), none, []⟩,
    ⟨(some 15), .mv (.t 20), none, []⟩])
   (.cond (.t 15)
   (.seq (.ops [⟨(some 4), .mv (.c (.i .i64 1)), none, []⟩])
    (.ret))
   (.seq (.ops [⟨(some 22), .fad 0 (.t 2), none, []⟩,
     ⟨(some 23), .ld none (.t 22), none, []⟩,
     ⟨(some 21), .mv (.t 23), none, []⟩])
    (.cond (.t 21)
    (.seq (.ops [⟨(some 24), .fad 1 (.t 3), none, []⟩,
      ⟨(some 25), .ld none (.t 24), none, []⟩,
      ⟨(some 26), .fad 1 (.t 2), none, []⟩,
      ⟨(some 27), .ld none (.t 26), none, []⟩,
      ⟨(some 28), .call true n_impl_natCmp [(.t 25), (.t 27)], none, []⟩,
      ⟨(some 4), .mv (.t 28), none, []⟩])
     (.ret))
    (.skip))))))))
  (.seq (.ops [⟨(some 29), .fad 1 (.t 2), none, []⟩,
   ⟨(some 30), .ld none (.t 29), none, []⟩,
   ⟨(some 31), .fad 1 (.t 3), none, []⟩,
   ⟨(some 32), .ld none (.t 31), none, []⟩,
   ⟨(some 33), .call true n_impl_natCmp [(.t 30), (.t 32)], none, []⟩,
   ⟨(some 4), .mv (.t 33), none, []⟩])
  (.ret))), [.t 4]⟩
def K_impl_bigCmp (P : Program) (f : Nat) : Prop := ∀ x y : Int, (limbs x.natAbs).length ≤ 4096 → (limbs y.natAbs).length ≤ 4096 → SC P f [bv x, bv y] (.i .i64 (cmpZ x y))
theorem t_impl_bigCmp {P : Program} {f n_impl_natCmp : Nat} (h : Has P f (c_impl_bigCmp n_impl_natCmp)) (k_impl_natCmp : K_impl_natCmp P n_impl_natCmp) : K_impl_bigCmp P f := by
  intro x y hx hy
  refine sc_go h (by simp) ?_
  by_cases h1 : x < 0 <;> by_cases h2 : y < 0
  · simp -implicitDefEqProofs (disch := omega) only [↓walk, plain, List.length_map, List.getElem?_map, Option.map_some, Nat.reduceBEq, decT, decF, iteT, iteF, wrap_ok, Int.reduceToNat, Int.reduceLE, Int.reduceLT, Int.reduceAdd, Int.reduceSub, Int.reduceNeg, reduceIte, Nat.reduceEqDiff, Nat.reduceAdd, Nat.reduceSub, Nat.reduceMul, Nat.reduceLeDiff, Nat.reduceShiftRight, Nat.reduceMod, reduceCtorEq, bv, bt, decide_eq_true h1, decide_eq_true h2, bb]
    refine goCall_sc (k_impl_natCmp y.natAbs x.natAbs (by omega) (by omega)) (by repeat (first | exact vws_nil | refine vws_cons ?_ ?_ | exact vw_bb | exact vw_ii | exact vw_ss | exact vw_ints | exact vw_ints0 | exact vw_nn | exact vw_n0 | exact vwl_nil | refine vwl_cons ?_ ?_ | refine vw_agg ?_ | refine vw_fn ?_ | assumption)) ?_
    simp -implicitDefEqProofs (disch := omega) only [↓walk, plain, List.length_map, List.getElem?_map, Option.map_some, Nat.reduceBEq, decT, decF, iteT, iteF, wrap_ok, Int.reduceToNat, Int.reduceLE, Int.reduceLT, Int.reduceAdd, Int.reduceSub, Int.reduceNeg, reduceIte, Nat.reduceEqDiff, Nat.reduceAdd, Nat.reduceSub, Nat.reduceMul, Nat.reduceLeDiff, Nat.reduceShiftRight, Nat.reduceMod, reduceCtorEq]
    exact data_i (by unfold cmpZ cmpN; split <;> (try split) <;> (try split) <;> (try split) <;> omega)
  · simp -implicitDefEqProofs (disch := omega) only [↓walk, plain, List.length_map, List.getElem?_map, Option.map_some, Nat.reduceBEq, decT, decF, iteT, iteF, wrap_ok, Int.reduceToNat, Int.reduceLE, Int.reduceLT, Int.reduceAdd, Int.reduceSub, Int.reduceNeg, reduceIte, Nat.reduceEqDiff, Nat.reduceAdd, Nat.reduceSub, Nat.reduceMul, Nat.reduceLeDiff, Nat.reduceShiftRight, Nat.reduceMod, reduceCtorEq, bv, bt, decide_eq_true h1, decide_eq_false h2, bb]
    exact data_i (by unfold cmpZ; split <;> omega)
  · simp -implicitDefEqProofs (disch := omega) only [↓walk, plain, List.length_map, List.getElem?_map, Option.map_some, Nat.reduceBEq, decT, decF, iteT, iteF, wrap_ok, Int.reduceToNat, Int.reduceLE, Int.reduceLT, Int.reduceAdd, Int.reduceSub, Int.reduceNeg, reduceIte, Nat.reduceEqDiff, Nat.reduceAdd, Nat.reduceSub, Nat.reduceMul, Nat.reduceLeDiff, Nat.reduceShiftRight, Nat.reduceMod, reduceCtorEq, bv, bt, decide_eq_false h1, decide_eq_true h2, bb]
    exact data_i (by unfold cmpZ; split <;> (try split) <;> omega)
  · simp -implicitDefEqProofs (disch := omega) only [↓walk, plain, List.length_map, List.getElem?_map, Option.map_some, Nat.reduceBEq, decT, decF, iteT, iteF, wrap_ok, Int.reduceToNat, Int.reduceLE, Int.reduceLT, Int.reduceAdd, Int.reduceSub, Int.reduceNeg, reduceIte, Nat.reduceEqDiff, Nat.reduceAdd, Nat.reduceSub, Nat.reduceMul, Nat.reduceLeDiff, Nat.reduceShiftRight, Nat.reduceMod, reduceCtorEq, bv, bt, decide_eq_false h1, decide_eq_false h2, bb]
    refine goCall_sc (k_impl_natCmp x.natAbs y.natAbs (by omega) (by omega)) (by repeat (first | exact vws_nil | refine vws_cons ?_ ?_ | exact vw_bb | exact vw_ii | exact vw_ss | exact vw_ints | exact vw_ints0 | exact vw_nn | exact vw_n0 | exact vwl_nil | refine vwl_cons ?_ ?_ | refine vw_agg ?_ | refine vw_fn ?_ | assumption)) ?_
    simp -implicitDefEqProofs (disch := omega) only [↓walk, plain, List.length_map, List.getElem?_map, Option.map_some, Nat.reduceBEq, decT, decF, iteT, iteF, wrap_ok, Int.reduceToNat, Int.reduceLE, Int.reduceLT, Int.reduceAdd, Int.reduceSub, Int.reduceNeg, reduceIte, Nat.reduceEqDiff, Nat.reduceAdd, Nat.reduceSub, Nat.reduceMul, Nat.reduceLeDiff, Nat.reduceShiftRight, Nat.reduceMod, reduceCtorEq]
    exact data_i (by unfold cmpZ cmpN; split <;> (try split) <;> (try split) <;> (try split) <;> omega)
def c_impl_BigIntOf (n_impl_NatOf : Nat) (n_impl_signed : Nat) (n_impl_natAdd : Nat) : AF := ⟨15, .seq (.ops [⟨(some 2), .new (.agg [(.b false), .nl]), none, []⟩])
  (.seq (.seq (.ops [⟨(some 3), .mv (.t 0), none, []⟩,
   ⟨(some 4), .bin .geq (.t 3) (.c (.i .i64 0)), none, []⟩])
  (.cond (.t 4)
  (.seq (.ops [⟨(some 5), .mv (.t 0), none, []⟩,
    ⟨(some 6), .call true n_impl_NatOf [(.t 5)], none, []⟩,
    ⟨(some 7), .call true n_impl_signed [(.c (.b false)), (.t 6)], none, []⟩,
    ⟨none, .st (some 2) (.t 2) (.t 7), none, []⟩])
   (.ret))
  (.skip)))
  (.seq (.ops [⟨(some 8), .mv (.t 0), none, []⟩,
   ⟨(some 9), .bin .add (.t 8) (.c (.i .i64 1)), none, []⟩,
   ⟨(some 10), .neg (.t 9), none, []⟩,
   ⟨(some 11), .call true n_impl_NatOf [(.t 10)], none, []⟩,
   ⟨(some 12), .bsl (.i .i64 0) 1 [(0, (.c (.i .i64 1)))], none, []⟩,
   ⟨(some 13), .call true n_impl_natAdd [(.t 11), (.t 12)], none, []⟩,
   ⟨(some 14), .call true n_impl_signed [(.c (.b true)), (.t 13)], none, []⟩,
   ⟨none, .st (some 2) (.t 2) (.t 14), none, []⟩])
  (.ret))), [.cell (some 2) 2]⟩
def K_impl_BigIntOf (P : Program) (f : Nat) : Prop := ∀ z : Int, -9223372036854775808 ≤ z → z < 9223372036854775808 → BC P f [.i .i64 z] z
theorem t_impl_BigIntOf {P : Program} {f n_impl_NatOf n_impl_signed n_impl_natAdd : Nat} (h : Has P f (c_impl_BigIntOf n_impl_NatOf n_impl_signed n_impl_natAdd)) (k_impl_NatOf : K_impl_NatOf P n_impl_NatOf) (k_impl_signed : K_impl_signed P n_impl_signed) (k_impl_natAdd : K_impl_natAdd P n_impl_natAdd) : K_impl_BigIntOf P f := by
  intro z h1 h2
  refine pc_go h (by simp) ?_
  by_cases h0 : 0 ≤ z
  · simp -implicitDefEqProofs (disch := omega) only [↓walk, plain, List.length_map, List.getElem?_map, Option.map_some, Nat.reduceBEq, decT, decF, iteT, iteF, wrap_ok, Int.reduceToNat, Int.reduceLE, Int.reduceLT, Int.reduceAdd, Int.reduceSub, Int.reduceNeg, reduceIte, Nat.reduceEqDiff, Nat.reduceAdd, Nat.reduceSub, Nat.reduceMul, Nat.reduceLeDiff, Nat.reduceShiftRight, Nat.reduceMod, reduceCtorEq]
    refine goCall_fc (OCI.fc (k_impl_NatOf z (by omega))) (by repeat (first | exact vws_nil | refine vws_cons ?_ ?_ | exact vw_bb | exact vw_ii | exact vw_ss | exact vw_ints | exact vw_ints0 | exact vw_nn | exact vw_n0 | exact vwl_nil | refine vwl_cons ?_ ?_ | refine vw_agg ?_ | refine vw_fn ?_ | assumption)) ?_
    simp -implicitDefEqProofs (disch := omega) only [↓walk, plain, List.length_map, List.getElem?_map, Option.map_some, Nat.reduceBEq, decT, decF, iteT, iteF, wrap_ok, Int.reduceToNat, Int.reduceLE, Int.reduceLT, Int.reduceAdd, Int.reduceSub, Int.reduceNeg, reduceIte, Nat.reduceEqDiff, Nat.reduceAdd, Nat.reduceSub, Nat.reduceMul, Nat.reduceLeDiff, Nat.reduceShiftRight, Nat.reduceMod, reduceCtorEq]
    refine goCall_tc (k_impl_signed _ z.toNat _ (by have := limbs_le3 z.toNat (by omega); omega)) (by repeat (first | exact norf_nil | refine norf_cons ?_ ?_ | exact .b _ | exact .i _ _ | exact .s _ | exact norf_ints | exact norf_ints0 | exact norf_bt | exact norf_qt | exact .nl)) ?_
    rintro v n' hn rfl
    simp -implicitDefEqProofs (disch := omega) only [↓walk, plain, List.length_map, List.getElem?_map, Option.map_some, Nat.reduceBEq, decT, decF, iteT, iteF, wrap_ok, Int.reduceToNat, Int.reduceLE, Int.reduceLT, Int.reduceAdd, Int.reduceSub, Int.reduceNeg, reduceIte, Nat.reduceEqDiff, Nat.reduceAdd, Nat.reduceSub, Nat.reduceMul, Nat.reduceLeDiff, Nat.reduceShiftRight, Nat.reduceMod, reduceCtorEq, bt]
    refine data_bt ?_
    rw [sgn_false]; omega
  · simp -implicitDefEqProofs (disch := omega) only [↓walk, plain, List.length_map, List.getElem?_map, Option.map_some, Nat.reduceBEq, decT, decF, iteT, iteF, wrap_ok, Int.reduceToNat, Int.reduceLE, Int.reduceLT, Int.reduceAdd, Int.reduceSub, Int.reduceNeg, reduceIte, Nat.reduceEqDiff, Nat.reduceAdd, Nat.reduceSub, Nat.reduceMul, Nat.reduceLeDiff, Nat.reduceShiftRight, Nat.reduceMod, reduceCtorEq]
    have l1 := limbs_le3 (0 - (z + 1)).toNat (by omega)
    have l2 := limbs_add_len l1 (show (limbs 1).length ≤ 4 by rw [limbs_one]; decide)
    refine goCall_fc (OCI.fc (k_impl_NatOf (0 - (z + 1)) (by omega))) (by repeat (first | exact vws_nil | refine vws_cons ?_ ?_ | exact vw_bb | exact vw_ii | exact vw_ss | exact vw_ints | exact vw_ints0 | exact vw_nn | exact vw_n0 | exact vwl_nil | refine vwl_cons ?_ ?_ | refine vw_agg ?_ | refine vw_fn ?_ | assumption)) ?_
    simp -implicitDefEqProofs (disch := omega) only [↓walk, plain, List.length_map, List.getElem?_map, Option.map_some, Nat.reduceBEq, decT, decF, iteT, iteF, wrap_ok, Int.reduceToNat, Int.reduceLE, Int.reduceLT, Int.reduceAdd, Int.reduceSub, Int.reduceNeg, reduceIte, Nat.reduceEqDiff, Nat.reduceAdd, Nat.reduceSub, Nat.reduceMul, Nat.reduceLeDiff, Nat.reduceShiftRight, Nat.reduceMod, reduceCtorEq]
    refine goCall_fc (OCI.fc (k_impl_natAdd (0 - (z + 1)).toNat 1 (by omega) (by rw [limbs_one]; decide))) (vws_cons vw_ints (vws_cons (vw_rf_ints (by simp -implicitDefEqProofs (disch := omega) only [↓walk, plain, List.length_map, List.getElem?_map, Option.map_some, Nat.reduceBEq, decT, decF, iteT, iteF, wrap_ok, Int.reduceToNat, Int.reduceLE, Int.reduceLT, Int.reduceAdd, Int.reduceSub, Int.reduceNeg, reduceIte, Nat.reduceEqDiff, Nat.reduceAdd, Nat.reduceSub, Nat.reduceMul, Nat.reduceLeDiff, Nat.reduceShiftRight, Nat.reduceMod, reduceCtorEq]; rfl) trivial (by rw [limbs_one]; rfl) (by rw [limbs_one]; rfl)) vws_nil)) ?_
    simp -implicitDefEqProofs (disch := omega) only [↓walk, plain, List.length_map, List.getElem?_map, Option.map_some, Nat.reduceBEq, decT, decF, iteT, iteF, wrap_ok, Int.reduceToNat, Int.reduceLE, Int.reduceLT, Int.reduceAdd, Int.reduceSub, Int.reduceNeg, reduceIte, Nat.reduceEqDiff, Nat.reduceAdd, Nat.reduceSub, Nat.reduceMul, Nat.reduceLeDiff, Nat.reduceShiftRight, Nat.reduceMod, reduceCtorEq]
    refine goCall_tc (k_impl_signed _ ((0 - (z + 1)).toNat + 1) _ (by omega)) (by repeat (first | exact norf_nil | refine norf_cons ?_ ?_ | exact .b _ | exact .i _ _ | exact .s _ | exact norf_ints | exact norf_ints0 | exact norf_bt | exact norf_qt | exact .nl)) ?_
    rintro v n' hn rfl
    simp -implicitDefEqProofs (disch := omega) only [↓walk, plain, List.length_map, List.getElem?_map, Option.map_some, Nat.reduceBEq, decT, decF, iteT, iteF, wrap_ok, Int.reduceToNat, Int.reduceLE, Int.reduceLT, Int.reduceAdd, Int.reduceSub, Int.reduceNeg, reduceIte, Nat.reduceEqDiff, Nat.reduceAdd, Nat.reduceSub, Nat.reduceMul, Nat.reduceLeDiff, Nat.reduceShiftRight, Nat.reduceMod, reduceCtorEq, bt]
    refine data_bt ?_
    rw [sgn_true]; omega
end Go.Am
/-! Walks: fractions. -/
namespace Go.Am
set_option linter.unusedVariables false
set_option linter.unusedSimpArgs false
set_option maxRecDepth 10000
set_option maxHeartbeats 4000000
theorem data_q {H : Heap} {A B : AV} {a b m : Nat} {s : Bool} {p : FQ} (hs : s = p.sg) (hA : Fzz H A [a] (fun n => .sl (some n) (p.nm.map (.i .i64)))) (hB : Fzz H B [b] (fun n => .sl (some n) (p.dn.map (.i .i64)))) (hne : a ≠ b) : Data (qtf p) 2 False (.agg [.b s, A, B]) H m := by
  subst hs
  exact (fz_agg (fzl_cons fz_b (fzl_cons hA (fzl_cons hB fzl_nil)))).data (by simpa using hne)
theorem data_q0 {H : Heap} {m : Nat} : Data (qtf FQ.void) 2 False (.agg [.b false, .nl, .nl]) H m :=
  data_q (a := 0) (b := 1) rfl (fz_ints_nl rfl) (fz_ints_nl rfl) (by omega)
theorem data_qt {H : Heap} {m a b : Nat} {p p' : FQ} (h : p' = p) (hne : a ≠ b) : Data (qtf p) 2 False (qt (some a) (some b) p') H m := by
  subst h
  exact data_q rfl (fz_ints_sl rfl) (fz_ints_sl rfl) hne
theorem vwt_q0 {H : Heap} {u w : Option Nat} : Vw H (fun _ => True) (fun k t => k = t) True (.agg [.b false, .nl, .nl]) (qt u w FQ.void) :=
  vw_agg (vwl_cons vw_bb (vwl_cons vw_n0 (vwl_cons vw_n0 vwl_nil)))
theorem mkRat_z {d : Nat} : mkRat 0 d = 0 := Rat.zero_mkRat d
theorem fits_zero : Fits 0 := by
  constructor
  · show (limbs 0).length ≤ 24; rw [limbs_zero]; decide
  · show (limbs 1).length ≤ 24; rw [limbs_one]; decide
theorem cap_zero_nm : (FQ.cap 0).nm = [] := by rw [FQ.nm, FQ.cap_some fits_zero]; exact limbs_zero
theorem cap_zero_dn : (FQ.cap 0).dn = [1] := by rw [FQ.dn, FQ.cap_some fits_zero]; exact limbs_one
theorem cap_zero_sg : (FQ.cap 0).sg = false := by rw [FQ.sg, FQ.cap_some fits_zero]; rfl
def c_impl_lowest (n_impl_natGcd : Nat) (n_impl_isOne : Nat) (n_impl_natDiv : Nat) (n_impl_signed : Nat) : AF := ⟨54, .seq (.ops [⟨(some 2), .box (.t 0), none, []⟩,
   ⟨(some 4), .new (.agg [(.b false), .nl, .nl]), none, []⟩])
  (.seq (.seq (.ops [⟨(some 10), .fad 1 (.t 2), none, []⟩,
   ⟨(some 11), .ld none (.t 10), none, []⟩,
   ⟨(some 12), .len (.t 11), none, []⟩,
   ⟨(some 13), .bin .eql (.t 12) (.c (.i .i64 0)), none, []⟩])
  (.cond (.t 13)
  (.seq (.ops [⟨(some 14), .bsl (.i .i64 0) 1 [(0, (.c (.i .i64 1)))], none, []⟩,
    ⟨(some 15), .bld [(.b false), .nl, .nl] [(2, 1, (.t 14))], none, []⟩,
    ⟨none, .st (some 3) (.t 4) (.t 15), none, []⟩])
   (.ret))
  (.skip)))
  (.seq (.seq (.ops [⟨(some 16), .mv (.t 1), none, []⟩,
   ⟨(some 17), .fad 1 (.t 2), none, []⟩,
   ⟨(some 18), .ld none (.t 17), none, []⟩,
   ⟨(some 19), .call true n_impl_natGcd [(.t 16), (.t 18)], none, []⟩,
   ⟨(some 5), .mv (.t 19), none, []⟩])
  (.seq (.ops [⟨(some 20), .mv (.t 5), none, []⟩,
   ⟨(some 21), .call true n_impl_isOne [(.t 20)], none, []⟩,
   ⟨(some 22), .not (.t 21), none, []⟩])
  (.cond (.t 22)
  (.seq (.ops [⟨(some 24), .fad 1 (.t 2), none, []⟩,
    ⟨(some 25), .ld none (.t 24), none, []⟩,
    ⟨(some 26), .mv (.t 5), none, []⟩,
    ⟨(some 27), .call true n_impl_natDiv [(.t 25), (.t 26)], none, []⟩,
    ⟨(some 23), .mv (.t 27), none, []⟩,
    ⟨(some 28), .ext 0 (.t 23), none, []⟩,
    ⟨(some 29), .ext 1 (.t 23), none, []⟩,
    ⟨(some 6), .mv (.t 28), none, []⟩,
    ⟨(some 7), .mv (.t 29), none, []⟩])
   (.seq (.ops [⟨(some 31), .mv (.t 1), none, []⟩,
    ⟨(some 32), .mv (.t 5), none, []⟩,
    ⟨(some 33), .call true n_impl_natDiv [(.t 31), (.t 32)], none, []⟩,
    ⟨(some 30), .mv (.t 33), none, []⟩,
    ⟨(some 34), .ext 0 (.t 30), none, []⟩,
    ⟨(some 35), .ext 1 (.t 30), none, []⟩,
    ⟨(some 8), .mv (.t 34), none, []⟩,
    ⟨(some 9), .mv (.t 35), none, []⟩])
   (.ops [⟨(some 36), .fad 0 (.t 2), none, []⟩,
    ⟨(some 37), .ld none (.t 36), none, []⟩,
    ⟨(some 38), .mv (.t 6), none, []⟩,
    ⟨(some 39), .call true n_impl_signed [(.t 37), (.t 38)], none, []⟩,
    ⟨(some 40), .mv (.t 8), none, []⟩,
    ⟨none, .st (some 2) (.t 2) (.t 39), none, []⟩,
    ⟨(some 1), .mv (.t 40), none, []⟩])))
  (.skip))))
  (.seq (.seq (.ops [⟨(some 41), .fad 1 (.t 2), none, []⟩,
   ⟨(some 42), .ld none (.t 41), none, []⟩,
   ⟨(some 43), .len (.t 42), none, []⟩,
   ⟨(some 44), .bin .gtr (.t 43) (.c (.i .i64 24)), none, []⟩,
   ⟨(some 45), .mv (.t 44), none, []⟩,
   ⟨(some 46), .mv (.t 1), some (45, false), []⟩,
   ⟨(some 47), .len (.t 46), some (45, false), []⟩,
   ⟨(some 48), .bin .gtr (.t 47) (.c (.i .i64 24)), some (45, false), []⟩,
   ⟨(some 49), .pick (.t 45) (.c (.b true)) (.t 48), none, []⟩])
  (.cond (.t 49)
  (.seq (.ops [⟨(some 50), .bld [(.b false), .nl, .nl] [], none, []⟩,
    ⟨none, .st (some 3) (.t 4) (.t 50), none, []⟩])
   (.ret))
  (.skip)))
  (.seq (.ops [⟨(some 51), .ld (some 2) (.t 2), none, []⟩,
   ⟨(some 52), .mv (.t 1), none, []⟩,
   ⟨(some 53), .bld [(.b false), .nl, .nl] [(0, 2, (.t 51)), (2, 1, (.t 52))], none, []⟩,
   ⟨none, .st (some 3) (.t 4) (.t 53), none, []⟩])
  (.ret))))), [.cell (some 3) 4]⟩
def K_impl_lowest (P : Program) (f : Nat) : Prop := ∀ (z : Int) (d : Nat) (u w : Option Nat), d ≠ 0 → (limbs z.natAbs).length ≤ 180 → (limbs d).length ≤ 180 → TC P f [bt u z, .sl w ((limbs d).map (.i .i64))] (fun n n' v => ∃ u' w', v = qt u' w' (FQ.cap (mkRat z d)) ∧ (∀ a b, u = some a → w = some b → a ≠ b → ∃ a' b', u' = some a' ∧ w' = some b' ∧ a' ≠ b'))
theorem t_impl_lowest {P : Program} {f n_impl_natGcd n_impl_isOne n_impl_natDiv n_impl_signed : Nat} (h : Has P f (c_impl_lowest n_impl_natGcd n_impl_isOne n_impl_natDiv n_impl_signed)) (k_impl_natGcd : K_impl_natGcd P n_impl_natGcd) (k_impl_isOne : K_impl_isOne P n_impl_isOne) (k_impl_natDiv : K_impl_natDiv P n_impl_natDiv) (k_impl_signed : K_impl_signed P n_impl_signed) : K_impl_lowest P f := by
  intro z d u w hd hz hdl
  refine tc_go h (by simp) fun n => ?_
  by_cases h0 : z = 0
  · subst h0
    simp -implicitDefEqProofs (disch := omega) only [↓walk, plain, List.length_map, List.getElem?_map, Option.map_some, Nat.reduceBEq, decT, decF, iteT, iteF, wrap_ok, Int.reduceToNat, Int.reduceLE, Int.reduceLT, Int.reduceAdd, Int.reduceSub, Int.reduceNeg, reduceIte, Nat.reduceEqDiff, Nat.reduceAdd, Nat.reduceSub, Nat.reduceMul, Nat.reduceLeDiff, Nat.reduceShiftRight, Nat.reduceMod, reduceCtorEq, bt, Int.natAbs_zero, limbs_zero, List.map_nil, List.length_nil]
    rw [mkRat_z]
    refine ⟨qt (some (n + 2 + 5)) (some (n + 2 + 4)) (FQ.cap 0), ?_, _, _, rfl, fun a b _ _ _ => ⟨_, _, rfl, rfl, by omega⟩⟩
    rw [qt, cap_zero_sg, cap_zero_nm, cap_zero_dn]
    exact vw_agg (vwl_cons vw_bb (vwl_cons vw_n0 (vwl_cons (vwt_rf (xs := [1]) (by simp -implicitDefEqProofs (disch := omega) only [↓walk, plain, List.length_map, List.getElem?_map, Option.map_some, Nat.reduceBEq, decT, decF, iteT, iteF, wrap_ok, Int.reduceToNat, Int.reduceLE, Int.reduceLT, Int.reduceAdd, Int.reduceSub, Int.reduceNeg, reduceIte, Nat.reduceEqDiff, Nat.reduceAdd, Nat.reduceSub, Nat.reduceMul, Nat.reduceLeDiff, Nat.reduceShiftRight, Nat.reduceMod, reduceCtorEq]; rfl) rfl rfl) vwl_nil)))
  have hzl : 0 < (limbs z.natAbs).length := limbs_pos_len (by omega)
  have hg : Nat.gcd d z.natAbs ≠ 0 := fun h => hd (Nat.eq_zero_of_gcd_eq_zero_left h)
  have l1 := limbs_len_mono (Nat.div_le_self z.natAbs (Nat.gcd d z.natAbs))
  have l2 := limbs_len_mono (Nat.div_le_self d (Nat.gcd d z.natAbs))
  have l3 := limbs_len_mono (Nat.le_of_dvd (by omega) (Nat.gcd_dvd_left d z.natAbs))
  have hf := fits_iff (z := z) hd
  simp -implicitDefEqProofs (disch := omega) only [↓walk, plain, List.length_map, List.getElem?_map, Option.map_some, Nat.reduceBEq, decT, decF, iteT, iteF, wrap_ok, Int.reduceToNat, Int.reduceLE, Int.reduceLT, Int.reduceAdd, Int.reduceSub, Int.reduceNeg, reduceIte, Nat.reduceEqDiff, Nat.reduceAdd, Nat.reduceSub, Nat.reduceMul, Nat.reduceLeDiff, Nat.reduceShiftRight, Nat.reduceMod, reduceCtorEq, bt]
  refine goCall_fc (k_impl_natGcd d z.natAbs (by omega) hdl hz) (by repeat (first | exact vws_nil | refine vws_cons ?_ ?_ | exact vw_bb | exact vw_ii | exact vw_ss | exact vw_ints | exact vw_ints0 | exact vw_nn | exact vw_n0 | exact vwl_nil | refine vwl_cons ?_ ?_ | refine vw_agg ?_ | refine vw_fn ?_ | assumption)) ?_
  simp -implicitDefEqProofs (disch := omega) only [↓walk, plain, List.length_map, List.getElem?_map, Option.map_some, Nat.reduceBEq, decT, decF, iteT, iteF, wrap_ok, Int.reduceToNat, Int.reduceLE, Int.reduceLT, Int.reduceAdd, Int.reduceSub, Int.reduceNeg, reduceIte, Nat.reduceEqDiff, Nat.reduceAdd, Nat.reduceSub, Nat.reduceMul, Nat.reduceLeDiff, Nat.reduceShiftRight, Nat.reduceMod, reduceCtorEq]
  refine goCall_sc (k_impl_isOne (limbs (Nat.gcd d z.natAbs)) (by omega)) (by repeat (first | exact vws_nil | refine vws_cons ?_ ?_ | exact vw_bb | exact vw_ii | exact vw_ss | exact vw_ints | exact vw_ints0 | exact vw_nn | exact vw_n0 | exact vwl_nil | refine vwl_cons ?_ ?_ | refine vw_agg ?_ | refine vw_fn ?_ | assumption)) ?_
  by_cases h1 : Nat.gcd d z.natAbs = 1
  · have e1 := one_iff.2 h1
    rw [h1, Nat.div_one, Nat.div_one] at hf
    by_cases h2 : (limbs z.natAbs).length ≤ 24
    · by_cases h3 : (limbs d).length ≤ 24
      · simp -implicitDefEqProofs (disch := omega) only [↓walk, plain, List.length_map, List.getElem?_map, Option.map_some, Nat.reduceBEq, decT, decF, iteT, iteF, wrap_ok, Int.reduceToNat, Int.reduceLE, Int.reduceLT, Int.reduceAdd, Int.reduceSub, Int.reduceNeg, reduceIte, Nat.reduceEqDiff, Nat.reduceAdd, Nat.reduceSub, Nat.reduceMul, Nat.reduceLeDiff, Nat.reduceShiftRight, Nat.reduceMod, reduceCtorEq, decide_eq_true e1, bb]
        refine ⟨qt u w (FQ.cap (mkRat z d)), ?_, _, _, rfl, fun a b ha hb hab => ⟨a, b, ha, hb, hab⟩⟩
        have hf := hf.2 ⟨h2, h3⟩
        rw [qt, cap_sg hd hf, cap_nm hd hf, cap_dn hd hf, h1, Nat.div_one, Nat.div_one]
        exact vw_agg (vwl_cons vw_bb (vwl_cons vwt_ints (vwl_cons vwt_ints vwl_nil)))
      · simp -implicitDefEqProofs (disch := omega) only [↓walk, plain, List.length_map, List.getElem?_map, Option.map_some, Nat.reduceBEq, decT, decF, iteT, iteF, wrap_ok, Int.reduceToNat, Int.reduceLE, Int.reduceLT, Int.reduceAdd, Int.reduceSub, Int.reduceNeg, reduceIte, Nat.reduceEqDiff, Nat.reduceAdd, Nat.reduceSub, Nat.reduceMul, Nat.reduceLeDiff, Nat.reduceShiftRight, Nat.reduceMod, reduceCtorEq, decide_eq_true e1, bb]
        rw [FQ.cap_none (fun hh => h3 (hf.1 hh).2)]
        exact ⟨_, vwt_q0, some 0, some 1, rfl, fun a b _ _ _ => ⟨_, _, rfl, rfl, by omega⟩⟩
    · simp -implicitDefEqProofs (disch := omega) only [↓walk, plain, List.length_map, List.getElem?_map, Option.map_some, Nat.reduceBEq, decT, decF, iteT, iteF, wrap_ok, Int.reduceToNat, Int.reduceLE, Int.reduceLT, Int.reduceAdd, Int.reduceSub, Int.reduceNeg, reduceIte, Nat.reduceEqDiff, Nat.reduceAdd, Nat.reduceSub, Nat.reduceMul, Nat.reduceLeDiff, Nat.reduceShiftRight, Nat.reduceMod, reduceCtorEq, decide_eq_true e1, bb]
      rw [FQ.cap_none (fun hh => h2 (hf.1 hh).1)]
      exact ⟨_, vwt_q0, some 0, some 1, rfl, fun a b _ _ _ => ⟨_, _, rfl, rfl, by omega⟩⟩
  · have e1 : ¬ limbs (Nat.gcd d z.natAbs) = [1] := fun h => h1 (one_iff.1 h)
    simp -implicitDefEqProofs (disch := omega) only [↓walk, plain, List.length_map, List.getElem?_map, Option.map_some, Nat.reduceBEq, decT, decF, iteT, iteF, wrap_ok, Int.reduceToNat, Int.reduceLE, Int.reduceLT, Int.reduceAdd, Int.reduceSub, Int.reduceNeg, reduceIte, Nat.reduceEqDiff, Nat.reduceAdd, Nat.reduceSub, Nat.reduceMul, Nat.reduceLeDiff, Nat.reduceShiftRight, Nat.reduceMod, reduceCtorEq, decide_eq_false e1, bb]
    refine goCall_fc (k_impl_natDiv z.natAbs (Nat.gcd d z.natAbs) (by omega) (by omega) (by omega)) (by repeat (first | exact vws_nil | refine vws_cons ?_ ?_ | exact vw_bb | exact vw_ii | exact vw_ss | exact vw_ints | exact vw_ints0 | exact vw_nn | exact vw_n0 | exact vwl_nil | refine vwl_cons ?_ ?_ | refine vw_agg ?_ | refine vw_fn ?_ | assumption)) ?_
    simp -implicitDefEqProofs (disch := omega) only [↓walk, plain, List.length_map, List.getElem?_map, Option.map_some, Nat.reduceBEq, decT, decF, iteT, iteF, wrap_ok, Int.reduceToNat, Int.reduceLE, Int.reduceLT, Int.reduceAdd, Int.reduceSub, Int.reduceNeg, reduceIte, Nat.reduceEqDiff, Nat.reduceAdd, Nat.reduceSub, Nat.reduceMul, Nat.reduceLeDiff, Nat.reduceShiftRight, Nat.reduceMod, reduceCtorEq]
    refine goCall_fc (k_impl_natDiv d (Nat.gcd d z.natAbs) (by omega) (by omega) (by omega)) (by repeat (first | exact vws_nil | refine vws_cons ?_ ?_ | exact vw_bb | exact vw_ii | exact vw_ss | exact vw_ints | exact vw_ints0 | exact vw_nn | exact vw_n0 | exact vwl_nil | refine vwl_cons ?_ ?_ | refine vw_agg ?_ | refine vw_fn ?_ | assumption)) ?_
    simp -implicitDefEqProofs (disch := omega) only [↓walk, plain, List.length_map, List.getElem?_map, Option.map_some, Nat.reduceBEq, decT, decF, iteT, iteF, wrap_ok, Int.reduceToNat, Int.reduceLE, Int.reduceLT, Int.reduceAdd, Int.reduceSub, Int.reduceNeg, reduceIte, Nat.reduceEqDiff, Nat.reduceAdd, Nat.reduceSub, Nat.reduceMul, Nat.reduceLeDiff, Nat.reduceShiftRight, Nat.reduceMod, reduceCtorEq]
    refine goCall_tc (k_impl_signed _ (z.natAbs / Nat.gcd d z.natAbs) _ (by omega)) (by repeat (first | exact norf_nil | refine norf_cons ?_ ?_ | exact .b _ | exact .i _ _ | exact .s _ | exact norf_ints | exact norf_ints0 | exact norf_bt | exact norf_qt | exact .nl)) ?_
    rintro v n' hn rfl
    by_cases h2 : (limbs (z.natAbs / Nat.gcd d z.natAbs)).length ≤ 24
    · by_cases h3 : (limbs (d / Nat.gcd d z.natAbs)).length ≤ 24
      · simp -implicitDefEqProofs (disch := omega) only [↓walk, plain, List.length_map, List.getElem?_map, Option.map_some, Nat.reduceBEq, decT, decF, iteT, iteF, wrap_ok, Int.reduceToNat, Int.reduceLE, Int.reduceLT, Int.reduceAdd, Int.reduceSub, Int.reduceNeg, reduceIte, Nat.reduceEqDiff, Nat.reduceAdd, Nat.reduceSub, Nat.reduceMul, Nat.reduceLeDiff, Nat.reduceShiftRight, Nat.reduceMod, reduceCtorEq, bt, sgn_abs]
        have hf := hf.2 ⟨h2, h3⟩
        have e2 : decide (sgn (decide (z < 0)) (z.natAbs / Nat.gcd d z.natAbs) < 0) = decide (z < 0) := by
          rw [sgn_lt, decide_eq_true (p := _ ≠ 0), Bool.and_true]
          exact Nat.ne_of_gt (Nat.div_pos (Nat.le_of_dvd (by omega) (Nat.gcd_dvd_right d z.natAbs)) (by omega))
        rw [e2]
        refine ⟨qt (some (n + 2 + 4 + 5 + 1 + 3 + 9)) (some (n + 2 + 4 + 5 + 1 + 3 + 9 + 2 + 8)) (FQ.cap (mkRat z d)), ?_, _, _, rfl, fun a b _ _ _ => ⟨_, _, rfl, rfl, by omega⟩⟩
        rw [qt, cap_sg hd hf, cap_nm hd hf, cap_dn hd hf]
        exact vw_agg (vwl_cons vw_bb (vwl_cons vwt_ints (vwl_cons vwt_ints vwl_nil)))
      · simp -implicitDefEqProofs (disch := omega) only [↓walk, plain, List.length_map, List.getElem?_map, Option.map_some, Nat.reduceBEq, decT, decF, iteT, iteF, wrap_ok, Int.reduceToNat, Int.reduceLE, Int.reduceLT, Int.reduceAdd, Int.reduceSub, Int.reduceNeg, reduceIte, Nat.reduceEqDiff, Nat.reduceAdd, Nat.reduceSub, Nat.reduceMul, Nat.reduceLeDiff, Nat.reduceShiftRight, Nat.reduceMod, reduceCtorEq, bt, sgn_abs]
        rw [FQ.cap_none (fun hh => h3 (hf.1 hh).2)]
        exact ⟨_, vwt_q0, some 0, some 1, rfl, fun a b _ _ _ => ⟨_, _, rfl, rfl, by omega⟩⟩
    · simp -implicitDefEqProofs (disch := omega) only [↓walk, plain, List.length_map, List.getElem?_map, Option.map_some, Nat.reduceBEq, decT, decF, iteT, iteF, wrap_ok, Int.reduceToNat, Int.reduceLE, Int.reduceLT, Int.reduceAdd, Int.reduceSub, Int.reduceNeg, reduceIte, Nat.reduceEqDiff, Nat.reduceAdd, Nat.reduceSub, Nat.reduceMul, Nat.reduceLeDiff, Nat.reduceShiftRight, Nat.reduceMod, reduceCtorEq, bt, sgn_abs]
      rw [FQ.cap_none (fun hh => h2 (hf.1 hh).1)]
      exact ⟨_, vwt_q0, some 0, some 1, rfl, fun a b _ _ _ => ⟨_, _, rfl, rfl, by omega⟩⟩
def c_impl_void : AF := ⟨7, .seq (.ops [⟨(some 1), .box (.t 0), none, []⟩,
   ⟨(some 2), .mv (.c (.b false)), none, []⟩])
  (.seq (.ops [⟨(some 3), .fad 2 (.t 1), none, []⟩,
   ⟨(some 4), .ld none (.t 3), none, []⟩,
   ⟨(some 5), .len (.t 4), none, []⟩,
   ⟨(some 6), .bin .eql (.t 5) (.c (.i .i64 0)), none, []⟩,
   ⟨(some 2), .mv (.t 6), none, []⟩])
  (.ret)), [.t 2]⟩
def K_impl_void (P : Program) (f : Nat) : Prop := ∀ p : FQ, SC P f [qv p] (.b (decide (p = FQ.void)))
theorem t_impl_void {P : Program} {f : Nat} (h : Has P f c_impl_void) : K_impl_void P f := by
  intro p
  refine sc_go h (by simp) ?_
  rcases p.split with rfl | ⟨q, hq, rfl⟩
  · simp -implicitDefEqProofs (disch := omega) only [↓walk, plain, List.length_map, List.getElem?_map, Option.map_some, Nat.reduceBEq, decT, decF, iteT, iteF, wrap_ok, Int.reduceToNat, Int.reduceLE, Int.reduceLT, Int.reduceAdd, Int.reduceSub, Int.reduceNeg, reduceIte, Nat.reduceEqDiff, Nat.reduceAdd, Nat.reduceSub, Nat.reduceMul, Nat.reduceLeDiff, Nat.reduceShiftRight, Nat.reduceMod, reduceCtorEq, qv, qt, FQ.void_sg, FQ.void_nm, FQ.void_dn, List.map_nil, List.length_nil]
    exact data_b (by simp)
  · have := limbs_pos_len q.den_nz
    simp -implicitDefEqProofs (disch := omega) only [↓walk, plain, List.length_map, List.getElem?_map, Option.map_some, Nat.reduceBEq, decT, decF, iteT, iteF, wrap_ok, Int.reduceToNat, Int.reduceLE, Int.reduceLT, Int.reduceAdd, Int.reduceSub, Int.reduceNeg, reduceIte, Nat.reduceEqDiff, Nat.reduceAdd, Nat.reduceSub, Nat.reduceMul, Nat.reduceLeDiff, Nat.reduceShiftRight, Nat.reduceMod, reduceCtorEq, qv, qt, FQ.mk_sg, FQ.mk_nm, FQ.mk_dn]
    exact data_b (by rw [decide_eq_false (FQ.mk_ne hq)])
def c_impl_sign : AF := ⟨13, .seq (.ops [⟨(some 1), .box (.t 0), none, []⟩,
   ⟨(some 2), .mv (.c (.i .i64 0)), none, []⟩])
  (.seq (.block 0 (.seq (.ops [⟨(some 4), .fad 0 (.t 1), none, []⟩,
   ⟨(some 5), .fad 0 (.t 4), none, []⟩,
   ⟨(some 6), .ld none (.t 5), none, []⟩,
   ⟨(some 3), .mv (.t 6), none, []⟩])
  (.cond (.t 3)
  (.seq (.ops [⟨(some 2), .mv (.c (.i .i64 (-1))), none, []⟩])
   (.ret))
  (.seq (.ops [⟨(some 8), .fad 0 (.t 1), none, []⟩,
    ⟨(some 9), .fad 1 (.t 8), none, []⟩,
    ⟨(some 10), .ld none (.t 9), none, []⟩,
    ⟨(some 11), .len (.t 10), none, []⟩,
    ⟨(some 12), .bin .gtr (.t 11) (.c (.i .i64 0)), none, []⟩,
    ⟨(some 7), .mv (.t 12), none, []⟩])
   (.cond (.t 7)
   (.seq (.ops [⟨(some 2), .mv (.c (.i .i64 1)), none, []⟩])
    (.ret))
   (.skip))))))
  (.seq (.ops [⟨(some 2), .mv (.c (.i .i64 0)), none, []⟩])
  (.ret))), [.t 2]⟩
def K_impl_sign (P : Program) (f : Nat) : Prop := ∀ p : FQ, SC P f [qv p] (.i .i64 p.zN.sign)
theorem t_impl_sign {P : Program} {f : Nat} (h : Has P f c_impl_sign) : K_impl_sign P f := by
  intro p
  refine sc_go h (by simp) ?_
  rcases p.split with rfl | ⟨q, hq, rfl⟩
  · simp -implicitDefEqProofs (disch := omega) only [↓walk, plain, List.length_map, List.getElem?_map, Option.map_some, Nat.reduceBEq, decT, decF, iteT, iteF, wrap_ok, Int.reduceToNat, Int.reduceLE, Int.reduceLT, Int.reduceAdd, Int.reduceSub, Int.reduceNeg, reduceIte, Nat.reduceEqDiff, Nat.reduceAdd, Nat.reduceSub, Nat.reduceMul, Nat.reduceLeDiff, Nat.reduceShiftRight, Nat.reduceMod, reduceCtorEq, qv, qt, FQ.void_sg, FQ.void_nm, FQ.void_dn, List.map_nil, List.length_nil]
    exact data_i rfl
  · by_cases h1 : q.num < 0
    · simp -implicitDefEqProofs (disch := omega) only [↓walk, plain, List.length_map, List.getElem?_map, Option.map_some, Nat.reduceBEq, decT, decF, iteT, iteF, wrap_ok, Int.reduceToNat, Int.reduceLE, Int.reduceLT, Int.reduceAdd, Int.reduceSub, Int.reduceNeg, reduceIte, Nat.reduceEqDiff, Nat.reduceAdd, Nat.reduceSub, Nat.reduceMul, Nat.reduceLeDiff, Nat.reduceShiftRight, Nat.reduceMod, reduceCtorEq, qv, qt, FQ.mk_sg, FQ.mk_nm, FQ.mk_dn, decide_eq_true h1]
      exact data_i (by rw [FQ.mk_zN, Int.sign_eq_neg_one_of_neg h1])
    · by_cases h2 : q.num = 0
      · have e0 : (limbs q.num.natAbs).length = 0 := len0_iff.2 (by omega)
        simp -implicitDefEqProofs (disch := omega) only [↓walk, plain, List.length_map, List.getElem?_map, Option.map_some, Nat.reduceBEq, decT, decF, iteT, iteF, wrap_ok, Int.reduceToNat, Int.reduceLE, Int.reduceLT, Int.reduceAdd, Int.reduceSub, Int.reduceNeg, reduceIte, Nat.reduceEqDiff, Nat.reduceAdd, Nat.reduceSub, Nat.reduceMul, Nat.reduceLeDiff, Nat.reduceShiftRight, Nat.reduceMod, reduceCtorEq, qv, qt, FQ.mk_sg, FQ.mk_nm, FQ.mk_dn, decide_eq_false h1, e0]
        exact data_i (by rw [FQ.mk_zN, h2]; rfl)
      · have e0 := limbs_pos_len (d := q.num.natAbs) (by omega)
        simp -implicitDefEqProofs (disch := omega) only [↓walk, plain, List.length_map, List.getElem?_map, Option.map_some, Nat.reduceBEq, decT, decF, iteT, iteF, wrap_ok, Int.reduceToNat, Int.reduceLE, Int.reduceLT, Int.reduceAdd, Int.reduceSub, Int.reduceNeg, reduceIte, Nat.reduceEqDiff, Nat.reduceAdd, Nat.reduceSub, Nat.reduceMul, Nat.reduceLeDiff, Nat.reduceShiftRight, Nat.reduceMod, reduceCtorEq, qv, qt, FQ.mk_sg, FQ.mk_nm, FQ.mk_dn, decide_eq_false h1]
        exact data_i (by rw [FQ.mk_zN, Int.sign_eq_one_of_pos (by omega)])
def c_impl_isZero : AF := ⟨8, .seq (.ops [⟨(some 1), .box (.t 0), none, []⟩,
   ⟨(some 2), .mv (.c (.b false)), none, []⟩])
  (.seq (.ops [⟨(some 3), .fad 0 (.t 1), none, []⟩,
   ⟨(some 4), .fad 1 (.t 3), none, []⟩,
   ⟨(some 5), .ld none (.t 4), none, []⟩,
   ⟨(some 6), .len (.t 5), none, []⟩,
   ⟨(some 7), .bin .eql (.t 6) (.c (.i .i64 0)), none, []⟩,
   ⟨(some 2), .mv (.t 7), none, []⟩])
  (.ret)), [.t 2]⟩
def K_impl_isZero (P : Program) (f : Nat) : Prop := ∀ p : FQ, SC P f [qv p] (.b (decide (p.zN = 0)))
theorem t_impl_isZero {P : Program} {f : Nat} (h : Has P f c_impl_isZero) : K_impl_isZero P f := by
  intro p
  refine sc_go h (by simp) ?_
  rcases p.split with rfl | ⟨q, hq, rfl⟩
  · simp -implicitDefEqProofs (disch := omega) only [↓walk, plain, List.length_map, List.getElem?_map, Option.map_some, Nat.reduceBEq, decT, decF, iteT, iteF, wrap_ok, Int.reduceToNat, Int.reduceLE, Int.reduceLT, Int.reduceAdd, Int.reduceSub, Int.reduceNeg, reduceIte, Nat.reduceEqDiff, Nat.reduceAdd, Nat.reduceSub, Nat.reduceMul, Nat.reduceLeDiff, Nat.reduceShiftRight, Nat.reduceMod, reduceCtorEq, qv, qt, FQ.void_sg, FQ.void_nm, FQ.void_dn, List.map_nil, List.length_nil]
    exact data_b rfl
  · by_cases h2 : q.num = 0
    · have e0 : (limbs q.num.natAbs).length = 0 := len0_iff.2 (by omega)
      simp -implicitDefEqProofs (disch := omega) only [↓walk, plain, List.length_map, List.getElem?_map, Option.map_some, Nat.reduceBEq, decT, decF, iteT, iteF, wrap_ok, Int.reduceToNat, Int.reduceLE, Int.reduceLT, Int.reduceAdd, Int.reduceSub, Int.reduceNeg, reduceIte, Nat.reduceEqDiff, Nat.reduceAdd, Nat.reduceSub, Nat.reduceMul, Nat.reduceLeDiff, Nat.reduceShiftRight, Nat.reduceMod, reduceCtorEq, qv, qt, FQ.mk_sg, FQ.mk_nm, FQ.mk_dn, e0]
      exact data_b (by rw [FQ.mk_zN, decide_eq_true h2])
    · have e0 := limbs_pos_len (d := q.num.natAbs) (by omega)
      simp -implicitDefEqProofs (disch := omega) only [↓walk, plain, List.length_map, List.getElem?_map, Option.map_some, Nat.reduceBEq, decT, decF, iteT, iteF, wrap_ok, Int.reduceToNat, Int.reduceLE, Int.reduceLT, Int.reduceAdd, Int.reduceSub, Int.reduceNeg, reduceIte, Nat.reduceEqDiff, Nat.reduceAdd, Nat.reduceSub, Nat.reduceMul, Nat.reduceLeDiff, Nat.reduceShiftRight, Nat.reduceMod, reduceCtorEq, qv, qt, FQ.mk_sg, FQ.mk_nm, FQ.mk_dn]
      exact data_b (by rw [FQ.mk_zN, decide_eq_false h2])
def c_impl_copyRat (n_impl_copyInts : Nat) : AF := ⟨15, .seq (.ops [⟨(some 1), .box (.t 0), none, []⟩,
   ⟨(some 2), .new (.agg [(.b false), .nl, .nl]), none, []⟩])
  (.seq (.opsd [(0, ⟨(some 3), .fad 0 (.t 1), none, []⟩),
   (1, ⟨(some 4), .fad 0 (.t 3), none, []⟩),
   (2, ⟨(some 5), .ld none (.t 4), none, []⟩),
   (3, ⟨(some 6), .fad 0 (.t 1), none, []⟩),
   (4, ⟨(some 7), .fad 1 (.t 6), none, []⟩),
   (5, ⟨(some 8), .ld none (.t 7), none, []⟩),
   (8, ⟨(some 11), .fad 2 (.t 1), none, []⟩),
   (9, ⟨(some 12), .ld none (.t 11), none, []⟩),
   (6, ⟨(some 9), .call false n_impl_copyInts [(.t 8)], none, []⟩),
   (7, ⟨(some 10), .bld [(.b false), .nl] [(0, 1, (.t 5)), (1, 1, (.t 9))], none, []⟩),
   (10, ⟨(some 13), .call false n_impl_copyInts [(.t 12)], none, []⟩),
   (11, ⟨(some 14), .bld [(.b false), .nl, .nl] [(0, 2, (.t 10)), (2, 1, (.t 13))], none, []⟩),
   (12, ⟨none, .st (some 3) (.t 2) (.t 14), none, []⟩)])
  (.ret)), [.cell (some 3) 2]⟩
def K_impl_copyRat (P : Program) (f : Nat) : Prop := ∀ p : FQ, QC P f [qv p] p
theorem t_impl_copyRat {P : Program} {f n_impl_copyInts : Nat} (h : Has P f (c_impl_copyRat n_impl_copyInts)) (k_impl_copyInts : K_impl_copyInts P n_impl_copyInts) : K_impl_copyRat P f := by
  intro p
  refine pc_go h (by simp) ?_
  have l1 := p.nlen
  have l2 := p.dlen
  rw [← FQ.nm_eq] at l1
  rw [← FQ.dn_eq] at l2
  simp -implicitDefEqProofs (disch := omega) only [↓walk, plain, List.length_map, List.getElem?_map, Option.map_some, Nat.reduceBEq, decT, decF, iteT, iteF, wrap_ok, Int.reduceToNat, Int.reduceLE, Int.reduceLT, Int.reduceAdd, Int.reduceSub, Int.reduceNeg, reduceIte, Nat.reduceEqDiff, Nat.reduceAdd, Nat.reduceSub, Nat.reduceMul, Nat.reduceLeDiff, Nat.reduceShiftRight, Nat.reduceMod, reduceCtorEq, qv, qt]
  refine goCall_fc (OCI.fc (k_impl_copyInts p.nm (by omega))) (by repeat (first | exact vws_nil | refine vws_cons ?_ ?_ | exact vw_bb | exact vw_ii | exact vw_ss | exact vw_ints | exact vw_ints0 | exact vw_nn | exact vw_n0 | exact vwl_nil | refine vwl_cons ?_ ?_ | refine vw_agg ?_ | refine vw_fn ?_ | assumption)) ?_
  simp -implicitDefEqProofs (disch := omega) only [↓walk, plain, List.length_map, List.getElem?_map, Option.map_some, Nat.reduceBEq, decT, decF, iteT, iteF, wrap_ok, Int.reduceToNat, Int.reduceLE, Int.reduceLT, Int.reduceAdd, Int.reduceSub, Int.reduceNeg, reduceIte, Nat.reduceEqDiff, Nat.reduceAdd, Nat.reduceSub, Nat.reduceMul, Nat.reduceLeDiff, Nat.reduceShiftRight, Nat.reduceMod, reduceCtorEq]
  refine goCall_fc (OCI.fc (k_impl_copyInts p.dn (by omega))) (by repeat (first | exact vws_nil | refine vws_cons ?_ ?_ | exact vw_bb | exact vw_ii | exact vw_ss | exact vw_ints | exact vw_ints0 | exact vw_nn | exact vw_n0 | exact vwl_nil | refine vwl_cons ?_ ?_ | refine vw_agg ?_ | refine vw_fn ?_ | assumption)) ?_
  simp -implicitDefEqProofs (disch := omega) only [↓walk, plain, List.length_map, List.getElem?_map, Option.map_some, Nat.reduceBEq, decT, decF, iteT, iteF, wrap_ok, Int.reduceToNat, Int.reduceLE, Int.reduceLT, Int.reduceAdd, Int.reduceSub, Int.reduceNeg, reduceIte, Nat.reduceEqDiff, Nat.reduceAdd, Nat.reduceSub, Nat.reduceMul, Nat.reduceLeDiff, Nat.reduceShiftRight, Nat.reduceMod, reduceCtorEq]
  exact data_qt rfl (by omega)
end Go.Am
/-! Which values are fractions; quotients. -/
namespace Go.Am
set_option linter.unusedVariables false
set_option linter.unusedSimpArgs false
theorem num_inv_abs {q : Rat} (h : q.num ≠ 0) : (q⁻¹).num.natAbs = q.den := by
  rw [Rat.num_inv, Int.natAbs_mul, Int.natAbs_natCast, Int.natAbs_sign_of_ne_zero h, Nat.one_mul]
theorem num_inv_neg {q : Rat} (h : q.num ≠ 0) : decide ((q⁻¹).num < 0) = decide (q.num < 0) := by
  have hd := q.den_nz
  rw [Rat.num_inv, decide_eq_decide]
  rcases Int.lt_or_le q.num 0 with h1 | h1
  · rw [Int.sign_eq_neg_one_of_neg h1]; omega
  · rw [Int.sign_eq_one_of_pos (by omega)]; omega
theorem den_inv' {q : Rat} (h : q.num ≠ 0) : (q⁻¹).den = q.num.natAbs := by rw [Rat.den_inv, if_neg h]
theorem fits_inv {q : Rat} (h : q.num ≠ 0) (hf : Fits q) : Fits q⁻¹ := by
  unfold Fits at *
  rw [num_inv_abs h, den_inv' h]; exact hf.symm
theorem FQ.div_eq {a b : Rat} {ha : Fits a} {hb : Fits b} (h : b.num ≠ 0) : (of a ha).div (of b hb) = (of a ha).mul (of b⁻¹ (fits_inv h hb)) := by
  have h0 : b ≠ 0 := fun e => h (by rw [e]; rfl)
  simp only [div, mul, lift2, of, if_neg h0, Rat.div_def]
theorem FQ.div_zero {p : FQ} {b : Rat} {hb : Fits b} (h : b.num = 0) : p.div (of b hb) = void := by
  have h0 : b = 0 := Rat.num_eq_zero.1 h
  rcases p with ⟨_ | a, ha⟩
  · rfl
  · simp only [div, lift2, of, if_pos h0]
theorem FQ.void_div {p : FQ} : void.div p = void := rfl
theorem FQ.div_void {p : FQ} : p.div void = void := by rcases p with ⟨_ | a, ha⟩ <;> rfl
theorem FQ.void_add {p : FQ} : void.add p = void := rfl
theorem FQ.add_void {p : FQ} : p.add void = void := by rcases p with ⟨_ | a, ha⟩ <;> rfl
theorem FQ.void_mul {p : FQ} : void.mul p = void := rfl
theorem FQ.mul_void {p : FQ} : p.mul void = void := by rcases p with ⟨_ | a, ha⟩ <;> rfl
theorem FQ.void_neg : void.neg = void := rfl
theorem FQ.neg_of {a : Rat} {ha : Fits a} : (of a ha).neg = of (-a) (fits_neg ha) := ext (cap_some (fits_neg ha))
theorem FQ.add_of {a b : Rat} {ha : Fits a} {hb : Fits b} : (of a ha).add (of b hb) = cap (mkRat (a.num * b.den + b.num * a.den) (a.den * b.den)) := add_cap rfl rfl
theorem FQ.add_of_same {a b : Rat} {ha : Fits a} {hb : Fits b} (h : a.den = b.den) : (of a ha).add (of b hb) = cap (mkRat (a.num + b.num) a.den) := add_same rfl rfl h
theorem FQ.mul_of {a b : Rat} {ha : Fits a} {hb : Fits b} : (of a ha).mul (of b hb) = cap (mkRat (a.num * b.num) (a.den * b.den)) := mul_cap rfl rfl
theorem FQ.of_inj {a b : Rat} {ha : Fits a} {hb : Fits b} : of a ha = of b hb ↔ a = b := ⟨fun h => by cases congrArg Subtype.val h; rfl, fun h => by subst h; rfl⟩
def FQ.abs (p : FQ) : FQ := if p.sg then p.neg else p
theorem FQ.abs_void : void.abs = void := rfl
theorem FQ.abs_sg {p : FQ} : p.abs.sg = false := by
  rcases p.split with rfl | ⟨a, ha, rfl⟩
  · rfl
  · unfold abs
    split
    · rename_i h
      have := of_decide_eq_true (mk_sg ▸ h)
      rw [neg_of, mk_sg, Rat.neg_num]; exact decide_eq_false (by omega)
    · rename_i h; simpa using h
theorem FQ.abs_nm {p : FQ} : p.abs.nm = p.nm := by
  rcases p.split with rfl | ⟨a, ha, rfl⟩
  · rfl
  · unfold abs
    split
    · rw [neg_of, mk_nm, mk_nm, Rat.neg_num, Int.natAbs_neg]
    · rfl
theorem FQ.abs_dn {p : FQ} : p.abs.dn = p.dn := by
  rcases p.split with rfl | ⟨a, ha, rfl⟩
  · rfl
  · unfold abs
    split
    · rw [neg_of, mk_dn, mk_dn, Rat.neg_den]
    · rfl
/-- How two fractions compare; none counts as 0 / 0. -/
def FQ.cmp (p q : FQ) : Int := if p.zN * q.dN < q.zN * p.dN then -1 else if p.zN * q.dN = q.zN * p.dN then 0 else 1
theorem qt_eq {u w : Option Nat} {p : FQ} : qt u w p = .agg [.b (decide (p.zN < 0)), .sl u ((limbs p.zN.natAbs).map (.i .i64)), .sl w ((limbs p.dN).map (.i .i64))] := by
  rw [qt, FQ.sg_eq, FQ.nm_eq, FQ.dn_eq, FQ.nN_eq]
theorem qv_eq {p : FQ} : qv p = .agg [.b (decide (p.zN < 0)), .sl none ((limbs p.zN.natAbs).map (.i .i64)), .sl none ((limbs p.dN).map (.i .i64))] := qt_eq
theorem bv_nat {d : Nat} : bv (d : Int) = .agg [.b false, ints (limbs d)] := by
  rw [bv, bt, decide_eq_false (by omega), Int.natAbs_natCast]; rfl
/-- A sign and limbs that are a whole number. -/
def BOk (b : Bool) (xs : List Int) : Prop := NOk xs ∧ (b = true → xs ≠ [])
open Classical in
noncomputable def bok (b : Bool) (xs : List Int) : Bool := decide (BOk b xs)
theorem bok_t {b : Bool} {xs : List Int} (h : BOk b xs) : bok b xs = true := by simp [bok, h]
theorem bok_f {b : Bool} {xs : List Int} (h : ¬ BOk b xs) : bok b xs = false := by simp [bok, h]
/-- Three fields that may be a fraction. -/
def rawq (b : Bool) (xs ys : List Int) : AV := .agg [.b b, ints xs, ints ys]
theorem qv_raw {p : FQ} : qv p = rawq p.sg p.nm p.dn := rfl
def ROk (b : Bool) (xs ys : List Int) : Prop := ∃ q : Rat, Fits q ∧ b = decide (q.num < 0) ∧ xs = limbs q.num.natAbs ∧ ys = limbs q.den
open Classical in
noncomputable def rok (b : Bool) (xs ys : List Int) : Bool := decide (ROk b xs ys)
open Classical in
/-- The fraction that the fields are, or none. -/
noncomputable def fq (b : Bool) (xs ys : List Int) : FQ := if h : ROk b xs ys then FQ.of h.choose h.choose_spec.1 else FQ.void
theorem rok_t {b : Bool} {xs ys : List Int} (h : ROk b xs ys) : rok b xs ys = true := by simp [rok, h]
theorem rok_f {b : Bool} {xs ys : List Int} (h : ¬ ROk b xs ys) : rok b xs ys = false := by simp [rok, h]
theorem fq_ok {b : Bool} {xs ys : List Int} (h : ROk b xs ys) : ∃ q hq, fq b xs ys = FQ.of q hq ∧ rawq b xs ys = qv (FQ.of q hq) ∧ b = decide (q.num < 0) ∧ xs = limbs q.num.natAbs ∧ ys = limbs q.den := by
  refine ⟨h.choose, h.choose_spec.1, by simp [fq, h], ?_, h.choose_spec.2⟩
  obtain ⟨h1, h2, h3⟩ := h.choose_spec.2
  rw [qv_raw, FQ.mk_sg, FQ.mk_nm, FQ.mk_dn, ← h1, ← h2, ← h3]
theorem fq_no {b : Bool} {xs ys : List Int} (h : ¬ ROk b xs ys) : fq b xs ys = FQ.void := by simp [fq, h]
theorem rok_void : ¬ ROk false [] [] := by
  rintro ⟨q, _, _, _, h⟩
  exact q.den_nz (limbs_nil.1 h.symm)
theorem fq_self (p : FQ) : fq p.sg p.nm p.dn = p := by
  rcases p.split with rfl | ⟨q, hq, rfl⟩
  · exact fq_no rok_void
  · obtain ⟨r, hr, e, _, e1, e2, e3⟩ := fq_ok (b := (FQ.of q hq).sg) (xs := (FQ.of q hq).nm) (ys := (FQ.of q hq).dn) ⟨q, hq, rfl, rfl, rfl⟩
    rw [e]
    rw [FQ.mk_sg] at e1; rw [FQ.mk_nm] at e2; rw [FQ.mk_dn] at e3
    have h2 := limbs_inj e2
    have h3 := limbs_inj e3
    rw [FQ.of_inj]
    rw [decide_eq_decide] at e1
    exact Rat.ext (by omega) h3.symm
theorem rok_self (p : FQ) : rok p.sg p.nm p.dn = decide (p ≠ FQ.void) := by
  rcases p.split with rfl | ⟨q, hq, rfl⟩
  · rw [show (FQ.void).sg = false from rfl, show (FQ.void).nm = [] from rfl, show (FQ.void).dn = [] from rfl, rok_f rok_void]; simp
  · rw [FQ.mk_sg, FQ.mk_nm, FQ.mk_dn, rok_t ⟨q, hq, rfl, rfl, rfl⟩, decide_eq_true (FQ.mk_ne hq)]
theorem rok_of {b : Bool} {m d : Nat} (hb : b = true → m ≠ 0) (hd : d ≠ 0) (h1 : (limbs m).length ≤ 24) (h2 : (limbs d).length ≤ 24) (hg : Nat.gcd d m = 1) : ROk b (limbs m) (limbs d) := by
  refine ⟨⟨sgn b m, d, hd, by rw [sgn_abs, Nat.Coprime, Nat.gcd_comm]; exact hg⟩, ⟨by simpa only [sgn_abs] using h1, h2⟩, ?_, by rw [sgn_abs], rfl⟩
  simp only
  rw [sgn_lt]
  cases b
  · rfl
  · simp [hb rfl]
theorem ROk.conv {b : Bool} {xs ys : List Int} (h : ROk b xs ys) : (NOk xs ∧ (b = true → xs ≠ [])) ∧ NOk ys ∧ ys ≠ [] ∧ xs.length ≤ 24 ∧ ys.length ≤ 24 ∧ ∀ m d, xs = limbs m → ys = limbs d → Nat.gcd d m = 1 := by
  obtain ⟨q, hf, rfl, rfl, rfl⟩ := h
  have h1 := hf.1; have h2 := hf.2
  refine ⟨⟨NOk.of (by omega), fun hb he => ?_⟩, NOk.of (by omega), fun he => q.den_nz (limbs_nil.1 he), h1, h2, fun m d hm hd => ?_⟩
  · have := limbs_nil.1 he
    have := of_decide_eq_true hb
    omega
  · rw [← limbs_inj hm, ← limbs_inj hd, Nat.gcd_comm]; exact q.reduced
end Go.Am
/-! Walks: arithmetic of fractions. -/
namespace Go.Am
set_option linter.unusedVariables false
set_option linter.unusedSimpArgs false
set_option maxRecDepth 10000
set_option maxHeartbeats 4000000
theorem vw_bnat {H : Heap} {S : Nat → Prop} {u : Option Nat} {d : Nat} : Vw H S (fun _ _ => False) True (.agg [.b false, .sl u ((limbs d).map (.i .i64))]) (bv (d : Int)) := by
  rw [bv_nat]; exact vw_agg (vwl_cons vw_bb (vwl_cons vw_ints (vwl_nil)))
theorem vw_raw {H : Heap} {S : Nat → Prop} {u w : Option Nat} {b : Bool} {xs ys : List Int} : Vw H S (fun _ _ => False) True (.agg [.b b, .sl u (xs.map (.i .i64)), .sl w (ys.map (.i .i64))]) (rawq b xs ys) := vw_agg (vwl_cons vw_bb (vwl_cons vw_ints (vwl_cons vw_ints (vwl_nil))))
def c_impl_sameInts : AF := ⟨26, .seq (.ops [⟨(some 4), .mv (.c (.b false)), none, []⟩])
  (.seq (.seq (.ops [⟨(some 6), .mv (.t 0), none, []⟩,
   ⟨(some 7), .len (.t 6), none, []⟩,
   ⟨(some 8), .mv (.t 1), none, []⟩,
   ⟨(some 9), .len (.t 8), none, []⟩,
   ⟨(some 10), .bin .neq (.t 7) (.t 9), none, []⟩])
  (.cond (.t 10)
  (.seq (.ops [⟨(some 4), .mv (.c (.b false)), none, []⟩])
   (.ret))
  (.skip)))
  (.seq (.seq (.ops [⟨(some 11), .mv (.t 0), none, []⟩,
   ⟨(some 12), .len (.t 11), none, []⟩,
   ⟨(some 13), .mv (.c (.i .i64 0)), none, []⟩])
  (.block 0 (.loop (.seq (.ops [⟨(some 14), .bin .lss (.t 13) (.t 12), none, []⟩])
  (.seq (.cond (.t 14)
  (.skip)
  (.exit 0))
  (.seq (.block 1 (.seq (.ops [⟨(some 15), .mv (.t 13), none, []⟩,
   ⟨(some 5), .mv (.t 15), none, []⟩])
  (.seq (.opsd [(0, ⟨(some 16), .mv (.t 0), none, []⟩),
   (1, ⟨(some 17), .mv (.t 5), none, []⟩),
   (2, ⟨(some 18), .iad 1 (.t 16) (.t 17), none, []⟩),
   (3, ⟨(some 19), .ld none (.t 18), none, []⟩),
   (4, ⟨(some 20), .mv (.t 1), none, []⟩),
   (5, ⟨(some 21), .mv (.t 5), none, []⟩),
   (6, ⟨(some 22), .iad 1 (.t 20) (.t 21), none, []⟩),
   (7, ⟨(some 23), .ld none (.t 22), none, []⟩),
   (8, ⟨(some 24), .bin .neq (.t 19) (.t 23), none, []⟩)])
  (.cond (.t 24)
  (.seq (.ops [⟨(some 4), .mv (.c (.b false)), none, []⟩])
   (.ret))
  (.skip)))))
  (.ops [⟨(some 25), .bin .add (.t 13) (.c (.i .i64 1)), none, []⟩,
   ⟨(some 13), .mv (.t 25), none, []⟩])))))))
  (.seq (.ops [⟨(some 4), .mv (.c (.b true)), none, []⟩])
  (.ret)))), [.t 4]⟩
def K_impl_sameInts (P : Program) (f : Nat) : Prop := ∀ xs ys : List Int, xs.length < 9223372036854775808 → ys.length < 9223372036854775808 → SC P f [ints xs, ints ys] (.b (decide (xs = ys)))
theorem t_impl_sameInts {P : Program} {f : Nat} (h : Has P f c_impl_sameInts) : K_impl_sameInts P f := by
  intro xs ys hx hy
  refine sc_go h (by simp) ?_
  by_cases hl : xs.length = ys.length
  · simp -implicitDefEqProofs (disch := omega) only [↓walk, plain, List.length_map, List.getElem?_map, Option.map_some, Nat.reduceBEq, decT, decF, iteT, iteF, wrap_ok, Int.reduceToNat, Int.reduceLE, Int.reduceLT, Int.reduceAdd, Int.reduceSub, Int.reduceNeg, reduceIte, Nat.reduceEqDiff, Nat.reduceAdd, Nat.reduceSub, Nat.reduceMul, Nat.reduceLeDiff, Nat.reduceShiftRight, Nat.reduceMod, reduceCtorEq, ints]
    refine go_loopm 67100720 (by first | rfl | (simp only [mods, modsL, modsD, optB]; rfl)) (fun k fr H n => ∃ i : Nat, i + k = xs.length ∧ fr 13 = .i .i64 i ∧ xs.take i = ys.take i) xs.length ?_ ?_
    · simp -implicitDefEqProofs (disch := omega) only [↓walk, plain, List.length_map, List.getElem?_map, Option.map_some, Nat.reduceBEq, decT, decF, iteT, iteF, wrap_ok, Int.reduceToNat, Int.reduceLE, Int.reduceLT, Int.reduceAdd, Int.reduceSub, Int.reduceNeg, reduceIte, Nat.reduceEqDiff, Nat.reduceAdd, Nat.reduceSub, Nat.reduceMul, Nat.reduceLeDiff, Nat.reduceShiftRight, Nat.reduceMod, reduceCtorEq]
      exact ⟨0, by omega, rfl, rfl⟩
    · rintro k fr H n ⟨i, hk, f13, he⟩
      simp -implicitDefEqProofs (disch := omega) only [↓walk, plain, List.length_map, List.getElem?_map, Option.map_some, Nat.reduceBEq, iteT, iteF, wrap_ok, Int.reduceToNat, Int.reduceLE, Int.reduceLT, Int.reduceAdd, Int.reduceSub, Int.reduceNeg, reduceIte, Nat.reduceEqDiff, Nat.reduceAdd, Nat.reduceSub, Nat.reduceMul, Nat.reduceLeDiff, Nat.reduceShiftRight, Nat.reduceMod, reduceCtorEq, f13]
      refine goC_dec (fun h0 => ?_) (fun h0 => ?_)
      · obtain ⟨a, ha⟩ := getc (xs := xs) (i := i) (by omega)
        obtain ⟨b, hb⟩ := getc (xs := ys) (i := i) (by omega)
        by_cases hab : a = b
        · subst hab
          simp -implicitDefEqProofs (disch := omega) only [↓walk, plain, List.length_map, List.getElem?_map, Option.map_some, Nat.reduceBEq, decT, decF, iteT, iteF, wrap_ok, Int.reduceToNat, Int.reduceLE, Int.reduceLT, Int.reduceAdd, Int.reduceSub, Int.reduceNeg, reduceIte, Nat.reduceEqDiff, Nat.reduceAdd, Nat.reduceSub, Nat.reduceMul, Nat.reduceLeDiff, Nat.reduceShiftRight, Nat.reduceMod, reduceCtorEq, f13, ha, hb]
          exact ⟨k - 1, by omega, i + 1, by omega, rfl, by rw [List.take_add_one, List.take_add_one, he, ha, hb]⟩
        · simp -implicitDefEqProofs (disch := omega) only [↓walk, plain, List.length_map, List.getElem?_map, Option.map_some, Nat.reduceBEq, decT, decF, iteT, iteF, wrap_ok, Int.reduceToNat, Int.reduceLE, Int.reduceLT, Int.reduceAdd, Int.reduceSub, Int.reduceNeg, reduceIte, Nat.reduceEqDiff, Nat.reduceAdd, Nat.reduceSub, Nat.reduceMul, Nat.reduceLeDiff, Nat.reduceShiftRight, Nat.reduceMod, reduceCtorEq, f13, ha, hb]
          exact data_b (decide_eq_false (fun e => by subst e; rw [ha] at hb; cases hb; exact hab rfl)).symm
      · simp -implicitDefEqProofs (disch := omega) only [↓walk, plain, List.length_map, List.getElem?_map, Option.map_some, Nat.reduceBEq, decT, decF, iteT, iteF, wrap_ok, Int.reduceToNat, Int.reduceLE, Int.reduceLT, Int.reduceAdd, Int.reduceSub, Int.reduceNeg, reduceIte, Nat.reduceEqDiff, Nat.reduceAdd, Nat.reduceSub, Nat.reduceMul, Nat.reduceLeDiff, Nat.reduceShiftRight, Nat.reduceMod, reduceCtorEq]
        rw [take_all (by omega), take_all (by omega)] at he
        exact data_b (decide_eq_true he).symm
  · simp -implicitDefEqProofs (disch := omega) only [↓walk, plain, List.length_map, List.getElem?_map, Option.map_some, Nat.reduceBEq, decT, decF, iteT, iteF, wrap_ok, Int.reduceToNat, Int.reduceLE, Int.reduceLT, Int.reduceAdd, Int.reduceSub, Int.reduceNeg, reduceIte, Nat.reduceEqDiff, Nat.reduceAdd, Nat.reduceSub, Nat.reduceMul, Nat.reduceLeDiff, Nat.reduceShiftRight, Nat.reduceMod, reduceCtorEq, ints]
    exact data_b (decide_eq_false (fun e => hl (by rw [e]))).symm
def c_impl_neg (n_impl_void : Nat) (n_impl_bigNeg : Nat) (n_impl_copyInts : Nat) : AF := ⟨13, .seq (.ops [⟨(some 1), .box (.t 0), none, []⟩,
   ⟨(some 2), .new (.agg [(.b false), .nl, .nl]), none, []⟩])
  (.seq (.seq (.ops [⟨(some 3), .ld (some 3) (.t 1), none, []⟩,
   ⟨(some 4), .call true n_impl_void [(.t 3)], none, []⟩])
  (.cond (.t 4)
  (.seq (.ops [⟨(some 5), .bld [(.b false), .nl, .nl] [], none, []⟩,
    ⟨none, .st (some 3) (.t 2) (.t 5), none, []⟩])
   (.ret))
  (.skip)))
  (.seq (.opsd [(0, ⟨(some 6), .fad 0 (.t 1), none, []⟩),
   (1, ⟨(some 7), .ld (some 2) (.t 6), none, []⟩),
   (3, ⟨(some 9), .fad 2 (.t 1), none, []⟩),
   (4, ⟨(some 10), .ld none (.t 9), none, []⟩),
   (2, ⟨(some 8), .call false n_impl_bigNeg [(.t 7)], none, []⟩),
   (5, ⟨(some 11), .call false n_impl_copyInts [(.t 10)], none, []⟩),
   (6, ⟨(some 12), .bld [(.b false), .nl, .nl] [(0, 2, (.t 8)), (2, 1, (.t 11))], none, []⟩),
   (7, ⟨none, .st (some 3) (.t 2) (.t 12), none, []⟩)])
  (.ret))), [.cell (some 3) 2]⟩
def K_impl_neg (P : Program) (f : Nat) : Prop := ∀ p : FQ, QC P f [qv p] p.neg
theorem t_impl_neg {P : Program} {f n_impl_void n_impl_bigNeg n_impl_copyInts : Nat} (h : Has P f (c_impl_neg n_impl_void n_impl_bigNeg n_impl_copyInts)) (k_impl_void : K_impl_void P n_impl_void) (k_impl_bigNeg : K_impl_bigNeg P n_impl_bigNeg) (k_impl_copyInts : K_impl_copyInts P n_impl_copyInts) : K_impl_neg P f := by
  intro p
  refine pc_go h (by simp) ?_
  rcases p.split with rfl | ⟨a, ha, rfl⟩
  · simp -implicitDefEqProofs (disch := omega) only [↓walk, plain, List.length_map, List.getElem?_map, Option.map_some, Nat.reduceBEq, decT, decF, iteT, iteF, wrap_ok, Int.reduceToNat, Int.reduceLE, Int.reduceLT, Int.reduceAdd, Int.reduceSub, Int.reduceNeg, reduceIte, Nat.reduceEqDiff, Nat.reduceAdd, Nat.reduceSub, Nat.reduceMul, Nat.reduceLeDiff, Nat.reduceShiftRight, Nat.reduceMod, reduceCtorEq, qv, qt]
    refine goCall_sc (k_impl_void FQ.void) (by repeat (first | exact vws_nil | refine vws_cons ?_ ?_ | exact vw_bb | exact vw_ii | exact vw_ss | exact vw_ints | exact vw_ints0 | exact vw_nn | exact vw_n0 | exact vw_bt | exact vw_qt | exact vw_bnat | exact vw_raw | exact vwl_nil | refine vwl_cons ?_ ?_ | refine vw_agg ?_ | refine vw_fn ?_ | assumption)) ?_
    simp -implicitDefEqProofs (disch := omega) only [↓walk, plain, List.length_map, List.getElem?_map, Option.map_some, Nat.reduceBEq, decT, decF, iteT, iteF, wrap_ok, Int.reduceToNat, Int.reduceLE, Int.reduceLT, Int.reduceAdd, Int.reduceSub, Int.reduceNeg, reduceIte, Nat.reduceEqDiff, Nat.reduceAdd, Nat.reduceSub, Nat.reduceMul, Nat.reduceLeDiff, Nat.reduceShiftRight, Nat.reduceMod, reduceCtorEq, decide_true]
    exact data_q0
  · have hd := ha.2
    have hn := ha.1
    simp -implicitDefEqProofs (disch := omega) only [↓walk, plain, List.length_map, List.getElem?_map, Option.map_some, Nat.reduceBEq, decT, decF, iteT, iteF, wrap_ok, Int.reduceToNat, Int.reduceLE, Int.reduceLT, Int.reduceAdd, Int.reduceSub, Int.reduceNeg, reduceIte, Nat.reduceEqDiff, Nat.reduceAdd, Nat.reduceSub, Nat.reduceMul, Nat.reduceLeDiff, Nat.reduceShiftRight, Nat.reduceMod, reduceCtorEq, qv, qt, FQ.mk_sg, FQ.mk_nm, FQ.mk_dn]
    refine goCall_sc (k_impl_void (FQ.of a ha)) (by repeat (first | exact vws_nil | refine vws_cons ?_ ?_ | exact vw_bb | exact vw_ii | exact vw_ss | exact vw_ints | exact vw_ints0 | exact vw_nn | exact vw_n0 | exact vw_bt | exact vw_qt | exact vw_bnat | exact vw_raw | exact vwl_nil | refine vwl_cons ?_ ?_ | refine vw_agg ?_ | refine vw_fn ?_ | assumption)) ?_
    simp -implicitDefEqProofs (disch := omega) only [↓walk, plain, List.length_map, List.getElem?_map, Option.map_some, Nat.reduceBEq, decT, decF, iteT, iteF, wrap_ok, Int.reduceToNat, Int.reduceLE, Int.reduceLT, Int.reduceAdd, Int.reduceSub, Int.reduceNeg, reduceIte, Nat.reduceEqDiff, Nat.reduceAdd, Nat.reduceSub, Nat.reduceMul, Nat.reduceLeDiff, Nat.reduceShiftRight, Nat.reduceMod, reduceCtorEq, decide_eq_false (FQ.mk_ne ha)]
    refine goCall_bc (k_impl_bigNeg a.num (by omega)) (by repeat (first | exact vws_nil | refine vws_cons ?_ ?_ | exact vw_bb | exact vw_ii | exact vw_ss | exact vw_ints | exact vw_ints0 | exact vw_nn | exact vw_n0 | exact vw_bt | exact vw_qt | exact vw_bnat | exact vw_raw | exact vwl_nil | refine vwl_cons ?_ ?_ | refine vw_agg ?_ | refine vw_fn ?_ | assumption)) ?_
    simp -implicitDefEqProofs (disch := omega) only [↓walk, plain, List.length_map, List.getElem?_map, Option.map_some, Nat.reduceBEq, decT, decF, iteT, iteF, wrap_ok, Int.reduceToNat, Int.reduceLE, Int.reduceLT, Int.reduceAdd, Int.reduceSub, Int.reduceNeg, reduceIte, Nat.reduceEqDiff, Nat.reduceAdd, Nat.reduceSub, Nat.reduceMul, Nat.reduceLeDiff, Nat.reduceShiftRight, Nat.reduceMod, reduceCtorEq, bt]
    refine goCall_fc (OCI.fc (k_impl_copyInts (limbs a.den) (by omega))) (by repeat (first | exact vws_nil | refine vws_cons ?_ ?_ | exact vw_bb | exact vw_ii | exact vw_ss | exact vw_ints | exact vw_ints0 | exact vw_nn | exact vw_n0 | exact vw_bt | exact vw_qt | exact vw_bnat | exact vw_raw | exact vwl_nil | refine vwl_cons ?_ ?_ | refine vw_agg ?_ | refine vw_fn ?_ | assumption)) ?_
    simp -implicitDefEqProofs (disch := omega) only [↓walk, plain, List.length_map, List.getElem?_map, Option.map_some, Nat.reduceBEq, decT, decF, iteT, iteF, wrap_ok, Int.reduceToNat, Int.reduceLE, Int.reduceLT, Int.reduceAdd, Int.reduceSub, Int.reduceNeg, reduceIte, Nat.reduceEqDiff, Nat.reduceAdd, Nat.reduceSub, Nat.reduceMul, Nat.reduceLeDiff, Nat.reduceShiftRight, Nat.reduceMod, reduceCtorEq]
    rw [FQ.neg_of]
    exact data_qt (p' := FQ.of (-a) (fits_neg ha)) rfl (by omega)
def c_impl_add (n_impl_void : Nat) (n_impl_sameInts : Nat) (n_impl_bigAdd : Nat) (n_impl_copyInts : Nat) (n_impl_lowest : Nat) (n_impl_bigMul : Nat) (n_impl_natMul : Nat) : AF := ⟨49, .seq (.ops [⟨(some 2), .box (.t 0), none, []⟩,
   ⟨(some 3), .box (.t 1), none, []⟩,
   ⟨(some 4), .new (.agg [(.b false), .nl, .nl]), none, []⟩])
  (.seq (.seq (.ops [⟨(some 7), .ld (some 3) (.t 2), none, []⟩,
   ⟨(some 8), .call true n_impl_void [(.t 7)], none, []⟩,
   ⟨(some 9), .mv (.t 8), none, []⟩,
   ⟨(some 10), .ld (some 3) (.t 3), some (9, false), []⟩,
   ⟨(some 11), .call true n_impl_void [(.t 10)], some (9, false), []⟩,
   ⟨(some 12), .pick (.t 9) (.c (.b true)) (.t 11), none, []⟩])
  (.cond (.t 12)
  (.seq (.ops [⟨(some 13), .bld [(.b false), .nl, .nl] [], none, []⟩,
    ⟨none, .st (some 3) (.t 4) (.t 13), none, []⟩])
   (.ret))
  (.skip)))
  (.seq (.seq (.ops [⟨(some 14), .fad 2 (.t 2), none, []⟩,
   ⟨(some 15), .ld none (.t 14), none, []⟩,
   ⟨(some 16), .fad 2 (.t 3), none, []⟩,
   ⟨(some 17), .ld none (.t 16), none, []⟩,
   ⟨(some 18), .call true n_impl_sameInts [(.t 15), (.t 17)], none, []⟩])
  (.cond (.t 18)
  (.seq (.opsd [(0, ⟨(some 19), .fad 0 (.t 2), none, []⟩),
    (1, ⟨(some 20), .ld (some 2) (.t 19), none, []⟩),
    (2, ⟨(some 21), .fad 0 (.t 3), none, []⟩),
    (3, ⟨(some 22), .ld (some 2) (.t 21), none, []⟩),
    (5, ⟨(some 24), .fad 2 (.t 2), none, []⟩),
    (6, ⟨(some 25), .ld none (.t 24), none, []⟩),
    (4, ⟨(some 23), .call false n_impl_bigAdd [(.t 20), (.t 22)], none, []⟩),
    (7, ⟨(some 26), .call false n_impl_copyInts [(.t 25)], none, []⟩),
    (8, ⟨(some 27), .call true n_impl_lowest [(.t 23), (.t 26)], none, []⟩),
    (9, ⟨none, .st (some 3) (.t 4) (.t 27), none, []⟩)])
   (.ret))
  (.skip)))
  (.seq (.ops [⟨(some 28), .fad 0 (.t 2), none, []⟩,
   ⟨(some 29), .ld (some 2) (.t 28), none, []⟩,
   ⟨(some 30), .fad 2 (.t 3), none, []⟩,
   ⟨(some 31), .ld none (.t 30), none, []⟩,
   ⟨(some 32), .bld [(.b false), .nl] [(1, 1, (.t 31))], none, []⟩,
   ⟨(some 33), .call true n_impl_bigMul [(.t 29), (.t 32)], none, []⟩,
   ⟨(some 5), .new (.agg [(.b false), .nl]), none, []⟩,
   ⟨none, .st (some 2) (.t 5) (.t 33), none, []⟩])
  (.seq (.ops [⟨(some 34), .fad 0 (.t 3), none, []⟩,
   ⟨(some 35), .ld (some 2) (.t 34), none, []⟩,
   ⟨(some 36), .fad 2 (.t 2), none, []⟩,
   ⟨(some 37), .ld none (.t 36), none, []⟩,
   ⟨(some 38), .bld [(.b false), .nl] [(1, 1, (.t 37))], none, []⟩,
   ⟨(some 39), .call true n_impl_bigMul [(.t 35), (.t 38)], none, []⟩,
   ⟨(some 6), .new (.agg [(.b false), .nl]), none, []⟩,
   ⟨none, .st (some 2) (.t 6) (.t 39), none, []⟩])
  (.seq (.opsd [(0, ⟨(some 40), .ld (some 2) (.t 5), none, []⟩),
   (1, ⟨(some 41), .ld (some 2) (.t 6), none, []⟩),
   (3, ⟨(some 43), .fad 2 (.t 2), none, []⟩),
   (4, ⟨(some 44), .ld none (.t 43), none, []⟩),
   (5, ⟨(some 45), .fad 2 (.t 3), none, []⟩),
   (6, ⟨(some 46), .ld none (.t 45), none, []⟩),
   (2, ⟨(some 42), .call false n_impl_bigAdd [(.t 40), (.t 41)], none, []⟩),
   (7, ⟨(some 47), .call false n_impl_natMul [(.t 44), (.t 46)], none, []⟩),
   (8, ⟨(some 48), .call true n_impl_lowest [(.t 42), (.t 47)], none, []⟩),
   (9, ⟨none, .st (some 3) (.t 4) (.t 48), none, []⟩)])
  (.ret)))))), [.cell (some 3) 4]⟩
def K_impl_add (P : Program) (f : Nat) : Prop := ∀ p q : FQ, QC P f [qv p, qv q] (p.add q)
theorem t_impl_add {P : Program} {f n_impl_void n_impl_sameInts n_impl_bigAdd n_impl_copyInts n_impl_lowest n_impl_bigMul n_impl_natMul : Nat} (h : Has P f (c_impl_add n_impl_void n_impl_sameInts n_impl_bigAdd n_impl_copyInts n_impl_lowest n_impl_bigMul n_impl_natMul)) (k_impl_void : K_impl_void P n_impl_void) (k_impl_sameInts : K_impl_sameInts P n_impl_sameInts) (k_impl_bigAdd : K_impl_bigAdd P n_impl_bigAdd) (k_impl_copyInts : K_impl_copyInts P n_impl_copyInts) (k_impl_lowest : K_impl_lowest P n_impl_lowest) (k_impl_bigMul : K_impl_bigMul P n_impl_bigMul) (k_impl_natMul : K_impl_natMul P n_impl_natMul) : K_impl_add P f := by
  intro p q
  refine pc_go h (by simp) ?_
  rcases p.split with rfl | ⟨a, ha, rfl⟩
  · simp -implicitDefEqProofs (disch := omega) only [↓walk, plain, List.length_map, List.getElem?_map, Option.map_some, Nat.reduceBEq, decT, decF, iteT, iteF, wrap_ok, Int.reduceToNat, Int.reduceLE, Int.reduceLT, Int.reduceAdd, Int.reduceSub, Int.reduceNeg, reduceIte, Nat.reduceEqDiff, Nat.reduceAdd, Nat.reduceSub, Nat.reduceMul, Nat.reduceLeDiff, Nat.reduceShiftRight, Nat.reduceMod, reduceCtorEq, qv, qt]
    refine goCall_sc (k_impl_void FQ.void) (by repeat (first | exact vws_nil | refine vws_cons ?_ ?_ | exact vw_bb | exact vw_ii | exact vw_ss | exact vw_ints | exact vw_ints0 | exact vw_nn | exact vw_n0 | exact vw_bt | exact vw_qt | exact vw_bnat | exact vw_raw | exact vwl_nil | refine vwl_cons ?_ ?_ | refine vw_agg ?_ | refine vw_fn ?_ | assumption)) ?_
    simp -implicitDefEqProofs (disch := omega) only [↓walk, plain, List.length_map, List.getElem?_map, Option.map_some, Nat.reduceBEq, decT, decF, iteT, iteF, wrap_ok, Int.reduceToNat, Int.reduceLE, Int.reduceLT, Int.reduceAdd, Int.reduceSub, Int.reduceNeg, reduceIte, Nat.reduceEqDiff, Nat.reduceAdd, Nat.reduceSub, Nat.reduceMul, Nat.reduceLeDiff, Nat.reduceShiftRight, Nat.reduceMod, reduceCtorEq, decide_true]
    exact data_q0
  rcases q.split with rfl | ⟨b, hb, rfl⟩
  · rw [FQ.add_void]
    simp -implicitDefEqProofs (disch := omega) only [↓walk, plain, List.length_map, List.getElem?_map, Option.map_some, Nat.reduceBEq, decT, decF, iteT, iteF, wrap_ok, Int.reduceToNat, Int.reduceLE, Int.reduceLT, Int.reduceAdd, Int.reduceSub, Int.reduceNeg, reduceIte, Nat.reduceEqDiff, Nat.reduceAdd, Nat.reduceSub, Nat.reduceMul, Nat.reduceLeDiff, Nat.reduceShiftRight, Nat.reduceMod, reduceCtorEq, qv, qt]
    refine goCall_sc (k_impl_void (FQ.of a ha)) (by repeat (first | exact vws_nil | refine vws_cons ?_ ?_ | exact vw_bb | exact vw_ii | exact vw_ss | exact vw_ints | exact vw_ints0 | exact vw_nn | exact vw_n0 | exact vw_bt | exact vw_qt | exact vw_bnat | exact vw_raw | exact vwl_nil | refine vwl_cons ?_ ?_ | refine vw_agg ?_ | refine vw_fn ?_ | assumption)) ?_
    simp -implicitDefEqProofs (disch := omega) only [↓walk, plain, List.length_map, List.getElem?_map, Option.map_some, Nat.reduceBEq, decT, decF, iteT, iteF, wrap_ok, Int.reduceToNat, Int.reduceLE, Int.reduceLT, Int.reduceAdd, Int.reduceSub, Int.reduceNeg, reduceIte, Nat.reduceEqDiff, Nat.reduceAdd, Nat.reduceSub, Nat.reduceMul, Nat.reduceLeDiff, Nat.reduceShiftRight, Nat.reduceMod, reduceCtorEq, decide_eq_false (FQ.mk_ne ha)]
    refine goCall_sc (k_impl_void FQ.void) (by repeat (first | exact vws_nil | refine vws_cons ?_ ?_ | exact vw_bb | exact vw_ii | exact vw_ss | exact vw_ints | exact vw_ints0 | exact vw_nn | exact vw_n0 | exact vw_bt | exact vw_qt | exact vw_bnat | exact vw_raw | exact vwl_nil | refine vwl_cons ?_ ?_ | refine vw_agg ?_ | refine vw_fn ?_ | assumption)) ?_
    simp -implicitDefEqProofs (disch := omega) only [↓walk, plain, List.length_map, List.getElem?_map, Option.map_some, Nat.reduceBEq, decT, decF, iteT, iteF, wrap_ok, Int.reduceToNat, Int.reduceLE, Int.reduceLT, Int.reduceAdd, Int.reduceSub, Int.reduceNeg, reduceIte, Nat.reduceEqDiff, Nat.reduceAdd, Nat.reduceSub, Nat.reduceMul, Nat.reduceLeDiff, Nat.reduceShiftRight, Nat.reduceMod, reduceCtorEq, decide_true]
    exact data_q0
  have l1 := ha.1
  have l2 := ha.2
  have l3 := hb.1
  have l4 := hb.2
  have d1 := a.den_nz
  have d2 := b.den_nz
  simp -implicitDefEqProofs (disch := omega) only [↓walk, plain, List.length_map, List.getElem?_map, Option.map_some, Nat.reduceBEq, decT, decF, iteT, iteF, wrap_ok, Int.reduceToNat, Int.reduceLE, Int.reduceLT, Int.reduceAdd, Int.reduceSub, Int.reduceNeg, reduceIte, Nat.reduceEqDiff, Nat.reduceAdd, Nat.reduceSub, Nat.reduceMul, Nat.reduceLeDiff, Nat.reduceShiftRight, Nat.reduceMod, reduceCtorEq, qv, qt, FQ.mk_sg, FQ.mk_nm, FQ.mk_dn]
  refine goCall_sc (k_impl_void (FQ.of a ha)) (by repeat (first | exact vws_nil | refine vws_cons ?_ ?_ | exact vw_bb | exact vw_ii | exact vw_ss | exact vw_ints | exact vw_ints0 | exact vw_nn | exact vw_n0 | exact vw_bt | exact vw_qt | exact vw_bnat | exact vw_raw | exact vwl_nil | refine vwl_cons ?_ ?_ | refine vw_agg ?_ | refine vw_fn ?_ | assumption)) ?_
  simp -implicitDefEqProofs (disch := omega) only [↓walk, plain, List.length_map, List.getElem?_map, Option.map_some, Nat.reduceBEq, decT, decF, iteT, iteF, wrap_ok, Int.reduceToNat, Int.reduceLE, Int.reduceLT, Int.reduceAdd, Int.reduceSub, Int.reduceNeg, reduceIte, Nat.reduceEqDiff, Nat.reduceAdd, Nat.reduceSub, Nat.reduceMul, Nat.reduceLeDiff, Nat.reduceShiftRight, Nat.reduceMod, reduceCtorEq, decide_eq_false (FQ.mk_ne ha)]
  refine goCall_sc (k_impl_void (FQ.of b hb)) (by repeat (first | exact vws_nil | refine vws_cons ?_ ?_ | exact vw_bb | exact vw_ii | exact vw_ss | exact vw_ints | exact vw_ints0 | exact vw_nn | exact vw_n0 | exact vw_bt | exact vw_qt | exact vw_bnat | exact vw_raw | exact vwl_nil | refine vwl_cons ?_ ?_ | refine vw_agg ?_ | refine vw_fn ?_ | assumption)) ?_
  simp -implicitDefEqProofs (disch := omega) only [↓walk, plain, List.length_map, List.getElem?_map, Option.map_some, Nat.reduceBEq, decT, decF, iteT, iteF, wrap_ok, Int.reduceToNat, Int.reduceLE, Int.reduceLT, Int.reduceAdd, Int.reduceSub, Int.reduceNeg, reduceIte, Nat.reduceEqDiff, Nat.reduceAdd, Nat.reduceSub, Nat.reduceMul, Nat.reduceLeDiff, Nat.reduceShiftRight, Nat.reduceMod, reduceCtorEq, decide_eq_false (FQ.mk_ne hb), bb]
  refine goCall_sc (k_impl_sameInts (limbs a.den) (limbs b.den) (by omega) (by omega)) (by repeat (first | exact vws_nil | refine vws_cons ?_ ?_ | exact vw_bb | exact vw_ii | exact vw_ss | exact vw_ints | exact vw_ints0 | exact vw_nn | exact vw_n0 | exact vw_bt | exact vw_qt | exact vw_bnat | exact vw_raw | exact vwl_nil | refine vwl_cons ?_ ?_ | refine vw_agg ?_ | refine vw_fn ?_ | assumption)) ?_
  by_cases hs : a.den = b.den
  · simp -implicitDefEqProofs (disch := omega) only [↓walk, plain, List.length_map, List.getElem?_map, Option.map_some, Nat.reduceBEq, decT, decF, iteT, iteF, wrap_ok, Int.reduceToNat, Int.reduceLE, Int.reduceLT, Int.reduceAdd, Int.reduceSub, Int.reduceNeg, reduceIte, Nat.reduceEqDiff, Nat.reduceAdd, Nat.reduceSub, Nat.reduceMul, Nat.reduceLeDiff, Nat.reduceShiftRight, Nat.reduceMod, reduceCtorEq, decide_eq_true (congrArg limbs hs)]
    refine goCall_bc (k_impl_bigAdd a.num b.num (by omega) (by omega)) (by repeat (first | exact vws_nil | refine vws_cons ?_ ?_ | exact vw_bb | exact vw_ii | exact vw_ss | exact vw_ints | exact vw_ints0 | exact vw_nn | exact vw_n0 | exact vw_bt | exact vw_qt | exact vw_bnat | exact vw_raw | exact vwl_nil | refine vwl_cons ?_ ?_ | refine vw_agg ?_ | refine vw_fn ?_ | assumption)) ?_
    simp -implicitDefEqProofs (disch := omega) only [↓walk, plain, List.length_map, List.getElem?_map, Option.map_some, Nat.reduceBEq, decT, decF, iteT, iteF, wrap_ok, Int.reduceToNat, Int.reduceLE, Int.reduceLT, Int.reduceAdd, Int.reduceSub, Int.reduceNeg, reduceIte, Nat.reduceEqDiff, Nat.reduceAdd, Nat.reduceSub, Nat.reduceMul, Nat.reduceLeDiff, Nat.reduceShiftRight, Nat.reduceMod, reduceCtorEq]
    refine goCall_fc (OCI.fc (k_impl_copyInts (limbs a.den) (by omega))) (by repeat (first | exact vws_nil | refine vws_cons ?_ ?_ | exact vw_bb | exact vw_ii | exact vw_ss | exact vw_ints | exact vw_ints0 | exact vw_nn | exact vw_n0 | exact vw_bt | exact vw_qt | exact vw_bnat | exact vw_raw | exact vwl_nil | refine vwl_cons ?_ ?_ | refine vw_agg ?_ | refine vw_fn ?_ | assumption)) ?_
    simp -implicitDefEqProofs (disch := omega) only [↓walk, plain, List.length_map, List.getElem?_map, Option.map_some, Nat.reduceBEq, decT, decF, iteT, iteF, wrap_ok, Int.reduceToNat, Int.reduceLE, Int.reduceLT, Int.reduceAdd, Int.reduceSub, Int.reduceNeg, reduceIte, Nat.reduceEqDiff, Nat.reduceAdd, Nat.reduceSub, Nat.reduceMul, Nat.reduceLeDiff, Nat.reduceShiftRight, Nat.reduceMod, reduceCtorEq]
    refine goCall_tc (k_impl_lowest (a.num + b.num) a.den _ _ d1 (by have := lenI_add l1 l3; omega) (by omega)) (by repeat (first | exact norf_nil | refine norf_cons ?_ ?_ | exact .b _ | exact .i _ _ | exact .s _ | exact norf_ints | exact norf_ints0 | exact norf_bt | exact norf_qt | exact .nl)) ?_
    rintro v n' hn ⟨u', w', rfl, hne⟩
    obtain ⟨a', b', rfl, rfl, hab⟩ := hne _ _ rfl rfl (by omega)
    simp -implicitDefEqProofs (disch := omega) only [↓walk, plain, List.length_map, List.getElem?_map, Option.map_some, Nat.reduceBEq, decT, decF, iteT, iteF, wrap_ok, Int.reduceToNat, Int.reduceLE, Int.reduceLT, Int.reduceAdd, Int.reduceSub, Int.reduceNeg, reduceIte, Nat.reduceEqDiff, Nat.reduceAdd, Nat.reduceSub, Nat.reduceMul, Nat.reduceLeDiff, Nat.reduceShiftRight, Nat.reduceMod, reduceCtorEq, qt]
    rw [FQ.add_of_same hs]
    exact data_qt rfl hab
  · simp -implicitDefEqProofs (disch := omega) only [↓walk, plain, List.length_map, List.getElem?_map, Option.map_some, Nat.reduceBEq, decT, decF, iteT, iteF, wrap_ok, Int.reduceToNat, Int.reduceLE, Int.reduceLT, Int.reduceAdd, Int.reduceSub, Int.reduceNeg, reduceIte, Nat.reduceEqDiff, Nat.reduceAdd, Nat.reduceSub, Nat.reduceMul, Nat.reduceLeDiff, Nat.reduceShiftRight, Nat.reduceMod, reduceCtorEq, decide_eq_false (fun e => hs (limbs_inj e) : ¬ limbs a.den = limbs b.den)]
    refine goCall_bc (k_impl_bigMul a.num b.den (by omega) (by rw [Int.natAbs_natCast]; omega)) (by repeat (first | exact vws_nil | refine vws_cons ?_ ?_ | exact vw_bb | exact vw_ii | exact vw_ss | exact vw_ints | exact vw_ints0 | exact vw_nn | exact vw_n0 | exact vw_bt | exact vw_qt | exact vw_bnat | exact vw_raw | exact vwl_nil | refine vwl_cons ?_ ?_ | refine vw_agg ?_ | refine vw_fn ?_ | assumption)) ?_
    simp -implicitDefEqProofs (disch := omega) only [↓walk, plain, List.length_map, List.getElem?_map, Option.map_some, Nat.reduceBEq, decT, decF, iteT, iteF, wrap_ok, Int.reduceToNat, Int.reduceLE, Int.reduceLT, Int.reduceAdd, Int.reduceSub, Int.reduceNeg, reduceIte, Nat.reduceEqDiff, Nat.reduceAdd, Nat.reduceSub, Nat.reduceMul, Nat.reduceLeDiff, Nat.reduceShiftRight, Nat.reduceMod, reduceCtorEq, bt]
    refine goCall_bc (k_impl_bigMul b.num a.den (by omega) (by rw [Int.natAbs_natCast]; omega)) (by repeat (first | exact vws_nil | refine vws_cons ?_ ?_ | exact vw_bb | exact vw_ii | exact vw_ss | exact vw_ints | exact vw_ints0 | exact vw_nn | exact vw_n0 | exact vw_bt | exact vw_qt | exact vw_bnat | exact vw_raw | exact vwl_nil | refine vwl_cons ?_ ?_ | refine vw_agg ?_ | refine vw_fn ?_ | assumption)) ?_
    simp -implicitDefEqProofs (disch := omega) only [↓walk, plain, List.length_map, List.getElem?_map, Option.map_some, Nat.reduceBEq, decT, decF, iteT, iteF, wrap_ok, Int.reduceToNat, Int.reduceLE, Int.reduceLT, Int.reduceAdd, Int.reduceSub, Int.reduceNeg, reduceIte, Nat.reduceEqDiff, Nat.reduceAdd, Nat.reduceSub, Nat.reduceMul, Nat.reduceLeDiff, Nat.reduceShiftRight, Nat.reduceMod, reduceCtorEq, bt]
    have m1 := lenI_mul l1 (show (limbs (b.den : Int).natAbs).length ≤ 24 by rw [Int.natAbs_natCast]; omega)
    have m2 := lenI_mul l3 (show (limbs (a.den : Int).natAbs).length ≤ 24 by rw [Int.natAbs_natCast]; omega)
    have m3 := lenI_add m1 m2
    have m4 := limbs_mul_len l2 l4
    refine goCall_bc (k_impl_bigAdd (a.num * b.den) (b.num * a.den) (by omega) (by omega)) (by repeat (first | exact vws_nil | refine vws_cons ?_ ?_ | exact vw_bb | exact vw_ii | exact vw_ss | exact vw_ints | exact vw_ints0 | exact vw_nn | exact vw_n0 | exact vw_bt | exact vw_qt | exact vw_bnat | exact vw_raw | exact vwl_nil | refine vwl_cons ?_ ?_ | refine vw_agg ?_ | refine vw_fn ?_ | assumption)) ?_
    simp -implicitDefEqProofs (disch := omega) only [↓walk, plain, List.length_map, List.getElem?_map, Option.map_some, Nat.reduceBEq, decT, decF, iteT, iteF, wrap_ok, Int.reduceToNat, Int.reduceLE, Int.reduceLT, Int.reduceAdd, Int.reduceSub, Int.reduceNeg, reduceIte, Nat.reduceEqDiff, Nat.reduceAdd, Nat.reduceSub, Nat.reduceMul, Nat.reduceLeDiff, Nat.reduceShiftRight, Nat.reduceMod, reduceCtorEq]
    refine goCall_fc (OCI.fc (k_impl_natMul a.den b.den (by omega) (by omega))) (by repeat (first | exact vws_nil | refine vws_cons ?_ ?_ | exact vw_bb | exact vw_ii | exact vw_ss | exact vw_ints | exact vw_ints0 | exact vw_nn | exact vw_n0 | exact vw_bt | exact vw_qt | exact vw_bnat | exact vw_raw | exact vwl_nil | refine vwl_cons ?_ ?_ | refine vw_agg ?_ | refine vw_fn ?_ | assumption)) ?_
    simp -implicitDefEqProofs (disch := omega) only [↓walk, plain, List.length_map, List.getElem?_map, Option.map_some, Nat.reduceBEq, decT, decF, iteT, iteF, wrap_ok, Int.reduceToNat, Int.reduceLE, Int.reduceLT, Int.reduceAdd, Int.reduceSub, Int.reduceNeg, reduceIte, Nat.reduceEqDiff, Nat.reduceAdd, Nat.reduceSub, Nat.reduceMul, Nat.reduceLeDiff, Nat.reduceShiftRight, Nat.reduceMod, reduceCtorEq]
    refine goCall_tc (k_impl_lowest (a.num * b.den + b.num * a.den) (a.den * b.den) _ _ (Nat.mul_ne_zero d1 d2) (by omega) (by omega)) (by repeat (first | exact norf_nil | refine norf_cons ?_ ?_ | exact .b _ | exact .i _ _ | exact .s _ | exact norf_ints | exact norf_ints0 | exact norf_bt | exact norf_qt | exact .nl)) ?_
    rintro v n' hn ⟨u', w', rfl, hne⟩
    obtain ⟨a', b', rfl, rfl, hab⟩ := hne _ _ rfl rfl (by omega)
    simp -implicitDefEqProofs (disch := omega) only [↓walk, plain, List.length_map, List.getElem?_map, Option.map_some, Nat.reduceBEq, decT, decF, iteT, iteF, wrap_ok, Int.reduceToNat, Int.reduceLE, Int.reduceLT, Int.reduceAdd, Int.reduceSub, Int.reduceNeg, reduceIte, Nat.reduceEqDiff, Nat.reduceAdd, Nat.reduceSub, Nat.reduceMul, Nat.reduceLeDiff, Nat.reduceShiftRight, Nat.reduceMod, reduceCtorEq, qt]
    rw [FQ.add_of]
    exact data_qt rfl hab
def c_impl_mul (n_impl_void : Nat) (n_impl_bigMul : Nat) (n_impl_natMul : Nat) (n_impl_lowest : Nat) : AF := ⟨23, .seq (.ops [⟨(some 2), .box (.t 0), none, []⟩,
   ⟨(some 3), .box (.t 1), none, []⟩,
   ⟨(some 4), .new (.agg [(.b false), .nl, .nl]), none, []⟩])
  (.seq (.seq (.ops [⟨(some 5), .ld (some 3) (.t 2), none, []⟩,
   ⟨(some 6), .call true n_impl_void [(.t 5)], none, []⟩,
   ⟨(some 7), .mv (.t 6), none, []⟩,
   ⟨(some 8), .ld (some 3) (.t 3), some (7, false), []⟩,
   ⟨(some 9), .call true n_impl_void [(.t 8)], some (7, false), []⟩,
   ⟨(some 10), .pick (.t 7) (.c (.b true)) (.t 9), none, []⟩])
  (.cond (.t 10)
  (.seq (.ops [⟨(some 11), .bld [(.b false), .nl, .nl] [], none, []⟩,
    ⟨none, .st (some 3) (.t 4) (.t 11), none, []⟩])
   (.ret))
  (.skip)))
  (.seq (.opsd [(0, ⟨(some 12), .fad 0 (.t 2), none, []⟩),
   (1, ⟨(some 13), .ld (some 2) (.t 12), none, []⟩),
   (2, ⟨(some 14), .fad 0 (.t 3), none, []⟩),
   (3, ⟨(some 15), .ld (some 2) (.t 14), none, []⟩),
   (5, ⟨(some 17), .fad 2 (.t 2), none, []⟩),
   (6, ⟨(some 18), .ld none (.t 17), none, []⟩),
   (7, ⟨(some 19), .fad 2 (.t 3), none, []⟩),
   (8, ⟨(some 20), .ld none (.t 19), none, []⟩),
   (4, ⟨(some 16), .call false n_impl_bigMul [(.t 13), (.t 15)], none, []⟩),
   (9, ⟨(some 21), .call false n_impl_natMul [(.t 18), (.t 20)], none, []⟩),
   (10, ⟨(some 22), .call true n_impl_lowest [(.t 16), (.t 21)], none, []⟩),
   (11, ⟨none, .st (some 3) (.t 4) (.t 22), none, []⟩)])
  (.ret))), [.cell (some 3) 4]⟩
def K_impl_mul (P : Program) (f : Nat) : Prop := ∀ p q : FQ, QC P f [qv p, qv q] (p.mul q)
theorem t_impl_mul {P : Program} {f n_impl_void n_impl_bigMul n_impl_natMul n_impl_lowest : Nat} (h : Has P f (c_impl_mul n_impl_void n_impl_bigMul n_impl_natMul n_impl_lowest)) (k_impl_void : K_impl_void P n_impl_void) (k_impl_bigMul : K_impl_bigMul P n_impl_bigMul) (k_impl_natMul : K_impl_natMul P n_impl_natMul) (k_impl_lowest : K_impl_lowest P n_impl_lowest) : K_impl_mul P f := by
  intro p q
  refine pc_go h (by simp) ?_
  rcases p.split with rfl | ⟨a, ha, rfl⟩
  · simp -implicitDefEqProofs (disch := omega) only [↓walk, plain, List.length_map, List.getElem?_map, Option.map_some, Nat.reduceBEq, decT, decF, iteT, iteF, wrap_ok, Int.reduceToNat, Int.reduceLE, Int.reduceLT, Int.reduceAdd, Int.reduceSub, Int.reduceNeg, reduceIte, Nat.reduceEqDiff, Nat.reduceAdd, Nat.reduceSub, Nat.reduceMul, Nat.reduceLeDiff, Nat.reduceShiftRight, Nat.reduceMod, reduceCtorEq, qv, qt]
    refine goCall_sc (k_impl_void FQ.void) (by repeat (first | exact vws_nil | refine vws_cons ?_ ?_ | exact vw_bb | exact vw_ii | exact vw_ss | exact vw_ints | exact vw_ints0 | exact vw_nn | exact vw_n0 | exact vw_bt | exact vw_qt | exact vw_bnat | exact vw_raw | exact vwl_nil | refine vwl_cons ?_ ?_ | refine vw_agg ?_ | refine vw_fn ?_ | assumption)) ?_
    simp -implicitDefEqProofs (disch := omega) only [↓walk, plain, List.length_map, List.getElem?_map, Option.map_some, Nat.reduceBEq, decT, decF, iteT, iteF, wrap_ok, Int.reduceToNat, Int.reduceLE, Int.reduceLT, Int.reduceAdd, Int.reduceSub, Int.reduceNeg, reduceIte, Nat.reduceEqDiff, Nat.reduceAdd, Nat.reduceSub, Nat.reduceMul, Nat.reduceLeDiff, Nat.reduceShiftRight, Nat.reduceMod, reduceCtorEq, decide_true]
    exact data_q0
  rcases q.split with rfl | ⟨b, hb, rfl⟩
  · rw [FQ.mul_void]
    simp -implicitDefEqProofs (disch := omega) only [↓walk, plain, List.length_map, List.getElem?_map, Option.map_some, Nat.reduceBEq, decT, decF, iteT, iteF, wrap_ok, Int.reduceToNat, Int.reduceLE, Int.reduceLT, Int.reduceAdd, Int.reduceSub, Int.reduceNeg, reduceIte, Nat.reduceEqDiff, Nat.reduceAdd, Nat.reduceSub, Nat.reduceMul, Nat.reduceLeDiff, Nat.reduceShiftRight, Nat.reduceMod, reduceCtorEq, qv, qt]
    refine goCall_sc (k_impl_void (FQ.of a ha)) (by repeat (first | exact vws_nil | refine vws_cons ?_ ?_ | exact vw_bb | exact vw_ii | exact vw_ss | exact vw_ints | exact vw_ints0 | exact vw_nn | exact vw_n0 | exact vw_bt | exact vw_qt | exact vw_bnat | exact vw_raw | exact vwl_nil | refine vwl_cons ?_ ?_ | refine vw_agg ?_ | refine vw_fn ?_ | assumption)) ?_
    simp -implicitDefEqProofs (disch := omega) only [↓walk, plain, List.length_map, List.getElem?_map, Option.map_some, Nat.reduceBEq, decT, decF, iteT, iteF, wrap_ok, Int.reduceToNat, Int.reduceLE, Int.reduceLT, Int.reduceAdd, Int.reduceSub, Int.reduceNeg, reduceIte, Nat.reduceEqDiff, Nat.reduceAdd, Nat.reduceSub, Nat.reduceMul, Nat.reduceLeDiff, Nat.reduceShiftRight, Nat.reduceMod, reduceCtorEq, decide_eq_false (FQ.mk_ne ha)]
    refine goCall_sc (k_impl_void FQ.void) (by repeat (first | exact vws_nil | refine vws_cons ?_ ?_ | exact vw_bb | exact vw_ii | exact vw_ss | exact vw_ints | exact vw_ints0 | exact vw_nn | exact vw_n0 | exact vw_bt | exact vw_qt | exact vw_bnat | exact vw_raw | exact vwl_nil | refine vwl_cons ?_ ?_ | refine vw_agg ?_ | refine vw_fn ?_ | assumption)) ?_
    simp -implicitDefEqProofs (disch := omega) only [↓walk, plain, List.length_map, List.getElem?_map, Option.map_some, Nat.reduceBEq, decT, decF, iteT, iteF, wrap_ok, Int.reduceToNat, Int.reduceLE, Int.reduceLT, Int.reduceAdd, Int.reduceSub, Int.reduceNeg, reduceIte, Nat.reduceEqDiff, Nat.reduceAdd, Nat.reduceSub, Nat.reduceMul, Nat.reduceLeDiff, Nat.reduceShiftRight, Nat.reduceMod, reduceCtorEq, decide_true]
    exact data_q0
  have l1 := ha.1
  have l2 := ha.2
  have l3 := hb.1
  have l4 := hb.2
  have d1 := a.den_nz
  have d2 := b.den_nz
  simp -implicitDefEqProofs (disch := omega) only [↓walk, plain, List.length_map, List.getElem?_map, Option.map_some, Nat.reduceBEq, decT, decF, iteT, iteF, wrap_ok, Int.reduceToNat, Int.reduceLE, Int.reduceLT, Int.reduceAdd, Int.reduceSub, Int.reduceNeg, reduceIte, Nat.reduceEqDiff, Nat.reduceAdd, Nat.reduceSub, Nat.reduceMul, Nat.reduceLeDiff, Nat.reduceShiftRight, Nat.reduceMod, reduceCtorEq, qv, qt, FQ.mk_sg, FQ.mk_nm, FQ.mk_dn]
  refine goCall_sc (k_impl_void (FQ.of a ha)) (by repeat (first | exact vws_nil | refine vws_cons ?_ ?_ | exact vw_bb | exact vw_ii | exact vw_ss | exact vw_ints | exact vw_ints0 | exact vw_nn | exact vw_n0 | exact vw_bt | exact vw_qt | exact vw_bnat | exact vw_raw | exact vwl_nil | refine vwl_cons ?_ ?_ | refine vw_agg ?_ | refine vw_fn ?_ | assumption)) ?_
  simp -implicitDefEqProofs (disch := omega) only [↓walk, plain, List.length_map, List.getElem?_map, Option.map_some, Nat.reduceBEq, decT, decF, iteT, iteF, wrap_ok, Int.reduceToNat, Int.reduceLE, Int.reduceLT, Int.reduceAdd, Int.reduceSub, Int.reduceNeg, reduceIte, Nat.reduceEqDiff, Nat.reduceAdd, Nat.reduceSub, Nat.reduceMul, Nat.reduceLeDiff, Nat.reduceShiftRight, Nat.reduceMod, reduceCtorEq, decide_eq_false (FQ.mk_ne ha)]
  refine goCall_sc (k_impl_void (FQ.of b hb)) (by repeat (first | exact vws_nil | refine vws_cons ?_ ?_ | exact vw_bb | exact vw_ii | exact vw_ss | exact vw_ints | exact vw_ints0 | exact vw_nn | exact vw_n0 | exact vw_bt | exact vw_qt | exact vw_bnat | exact vw_raw | exact vwl_nil | refine vwl_cons ?_ ?_ | refine vw_agg ?_ | refine vw_fn ?_ | assumption)) ?_
  simp -implicitDefEqProofs (disch := omega) only [↓walk, plain, List.length_map, List.getElem?_map, Option.map_some, Nat.reduceBEq, decT, decF, iteT, iteF, wrap_ok, Int.reduceToNat, Int.reduceLE, Int.reduceLT, Int.reduceAdd, Int.reduceSub, Int.reduceNeg, reduceIte, Nat.reduceEqDiff, Nat.reduceAdd, Nat.reduceSub, Nat.reduceMul, Nat.reduceLeDiff, Nat.reduceShiftRight, Nat.reduceMod, reduceCtorEq, decide_eq_false (FQ.mk_ne hb), bb]
  have m1 := lenI_mul l1 l3
  have m4 := limbs_mul_len l2 l4
  refine goCall_bc (k_impl_bigMul a.num b.num (by omega) (by omega)) (by repeat (first | exact vws_nil | refine vws_cons ?_ ?_ | exact vw_bb | exact vw_ii | exact vw_ss | exact vw_ints | exact vw_ints0 | exact vw_nn | exact vw_n0 | exact vw_bt | exact vw_qt | exact vw_bnat | exact vw_raw | exact vwl_nil | refine vwl_cons ?_ ?_ | refine vw_agg ?_ | refine vw_fn ?_ | assumption)) ?_
  simp -implicitDefEqProofs (disch := omega) only [↓walk, plain, List.length_map, List.getElem?_map, Option.map_some, Nat.reduceBEq, decT, decF, iteT, iteF, wrap_ok, Int.reduceToNat, Int.reduceLE, Int.reduceLT, Int.reduceAdd, Int.reduceSub, Int.reduceNeg, reduceIte, Nat.reduceEqDiff, Nat.reduceAdd, Nat.reduceSub, Nat.reduceMul, Nat.reduceLeDiff, Nat.reduceShiftRight, Nat.reduceMod, reduceCtorEq]
  refine goCall_fc (OCI.fc (k_impl_natMul a.den b.den (by omega) (by omega))) (by repeat (first | exact vws_nil | refine vws_cons ?_ ?_ | exact vw_bb | exact vw_ii | exact vw_ss | exact vw_ints | exact vw_ints0 | exact vw_nn | exact vw_n0 | exact vw_bt | exact vw_qt | exact vw_bnat | exact vw_raw | exact vwl_nil | refine vwl_cons ?_ ?_ | refine vw_agg ?_ | refine vw_fn ?_ | assumption)) ?_
  simp -implicitDefEqProofs (disch := omega) only [↓walk, plain, List.length_map, List.getElem?_map, Option.map_some, Nat.reduceBEq, decT, decF, iteT, iteF, wrap_ok, Int.reduceToNat, Int.reduceLE, Int.reduceLT, Int.reduceAdd, Int.reduceSub, Int.reduceNeg, reduceIte, Nat.reduceEqDiff, Nat.reduceAdd, Nat.reduceSub, Nat.reduceMul, Nat.reduceLeDiff, Nat.reduceShiftRight, Nat.reduceMod, reduceCtorEq]
  refine goCall_tc (k_impl_lowest (a.num * b.num) (a.den * b.den) _ _ (Nat.mul_ne_zero d1 d2) (by omega) (by omega)) (by repeat (first | exact norf_nil | refine norf_cons ?_ ?_ | exact .b _ | exact .i _ _ | exact .s _ | exact norf_ints | exact norf_ints0 | exact norf_bt | exact norf_qt | exact .nl)) ?_
  rintro v n' hn ⟨u', w', rfl, hne⟩
  obtain ⟨a', b', rfl, rfl, hab⟩ := hne _ _ rfl rfl (by omega)
  simp -implicitDefEqProofs (disch := omega) only [↓walk, plain, List.length_map, List.getElem?_map, Option.map_some, Nat.reduceBEq, decT, decF, iteT, iteF, wrap_ok, Int.reduceToNat, Int.reduceLE, Int.reduceLT, Int.reduceAdd, Int.reduceSub, Int.reduceNeg, reduceIte, Nat.reduceEqDiff, Nat.reduceAdd, Nat.reduceSub, Nat.reduceMul, Nat.reduceLeDiff, Nat.reduceShiftRight, Nat.reduceMod, reduceCtorEq, qt]
  rw [FQ.mul_of]
  exact data_qt rfl hab
end Go.Am
/-! Walks: fractions, the program's own functions. -/
namespace Go.Am
set_option linter.unusedVariables false
set_option linter.unusedSimpArgs false
set_option maxRecDepth 10000
set_option maxHeartbeats 4000000
def c_impl_sub (n_impl_neg : Nat) (n_impl_add : Nat) : AF := ⟨9, .seq (.ops [⟨(some 2), .box (.t 0), none, []⟩,
   ⟨(some 3), .box (.t 1), none, []⟩,
   ⟨(some 4), .new (.agg [(.b false), .nl, .nl]), none, []⟩])
  (.seq (.opsd [(0, ⟨(some 5), .ld (some 3) (.t 2), none, []⟩),
   (1, ⟨(some 6), .ld (some 3) (.t 3), none, []⟩),
   (2, ⟨(some 7), .call false n_impl_neg [(.t 6)], none, []⟩),
   (3, ⟨(some 8), .call false n_impl_add [(.t 5), (.t 7)], none, []⟩),
   (4, ⟨none, .st (some 3) (.t 4) (.t 8), none, []⟩)])
  (.ret)), [.cell (some 3) 4]⟩
def K_impl_sub (P : Program) (f : Nat) : Prop := ∀ p q : FQ, QC P f [qv p, qv q] (p.sub q)
theorem t_impl_sub {P : Program} {f n_impl_neg n_impl_add : Nat} (h : Has P f (c_impl_sub n_impl_neg n_impl_add)) (k_impl_neg : K_impl_neg P n_impl_neg) (k_impl_add : K_impl_add P n_impl_add) : K_impl_sub P f := by
  intro p q
  refine pc_go h (by simp) ?_
  simp -implicitDefEqProofs (disch := omega) only [↓walk, plain, List.length_map, List.getElem?_map, Option.map_some, Nat.reduceBEq, decT, decF, iteT, iteF, wrap_ok, Int.reduceToNat, Int.reduceLE, Int.reduceLT, Int.reduceAdd, Int.reduceSub, Int.reduceNeg, reduceIte, Nat.reduceEqDiff, Nat.reduceAdd, Nat.reduceSub, Nat.reduceMul, Nat.reduceLeDiff, Nat.reduceShiftRight, Nat.reduceMod, reduceCtorEq, qv, qt]
  refine goCall_qc (k_impl_neg q) (by repeat (first | exact vws_nil | refine vws_cons ?_ ?_ | exact vw_bb | exact vw_ii | exact vw_ss | exact vw_ints | exact vw_ints0 | exact vw_nn | exact vw_n0 | exact vw_bt | exact vw_qt | exact vw_bnat | exact vw_raw | exact vwl_nil | refine vwl_cons ?_ ?_ | refine vw_agg ?_ | refine vw_fn ?_ | assumption)) ?_
  simp -implicitDefEqProofs (disch := omega) only [↓walk, plain, List.length_map, List.getElem?_map, Option.map_some, Nat.reduceBEq, decT, decF, iteT, iteF, wrap_ok, Int.reduceToNat, Int.reduceLE, Int.reduceLT, Int.reduceAdd, Int.reduceSub, Int.reduceNeg, reduceIte, Nat.reduceEqDiff, Nat.reduceAdd, Nat.reduceSub, Nat.reduceMul, Nat.reduceLeDiff, Nat.reduceShiftRight, Nat.reduceMod, reduceCtorEq, qt]
  refine goCall_qc (k_impl_add p q.neg) (by repeat (first | exact vws_nil | refine vws_cons ?_ ?_ | exact vw_bb | exact vw_ii | exact vw_ss | exact vw_ints | exact vw_ints0 | exact vw_nn | exact vw_n0 | exact vw_bt | exact vw_qt | exact vw_bnat | exact vw_raw | exact vwl_nil | refine vwl_cons ?_ ?_ | refine vw_agg ?_ | refine vw_fn ?_ | assumption)) ?_
  simp -implicitDefEqProofs (disch := omega) only [↓walk, plain, List.length_map, List.getElem?_map, Option.map_some, Nat.reduceBEq, decT, decF, iteT, iteF, wrap_ok, Int.reduceToNat, Int.reduceLE, Int.reduceLT, Int.reduceAdd, Int.reduceSub, Int.reduceNeg, reduceIte, Nat.reduceEqDiff, Nat.reduceAdd, Nat.reduceSub, Nat.reduceMul, Nat.reduceLeDiff, Nat.reduceShiftRight, Nat.reduceMod, reduceCtorEq, qt]
  rw [FQ.sub_eq]
  exact data_qt rfl (by omega)
def c_impl_div (n_impl_void : Nat) (n_impl_mul : Nat) : AF := ⟨31, .seq (.ops [⟨(some 2), .box (.t 0), none, []⟩,
   ⟨(some 3), .box (.t 1), none, []⟩,
   ⟨(some 4), .new (.agg [(.b false), .nl, .nl]), none, []⟩])
  (.seq (.seq (.ops [⟨(some 5), .ld (some 3) (.t 2), none, []⟩,
   ⟨(some 6), .call true n_impl_void [(.t 5)], none, []⟩,
   ⟨(some 7), .mv (.t 6), none, []⟩,
   ⟨(some 8), .ld (some 3) (.t 3), some (7, false), []⟩,
   ⟨(some 9), .call true n_impl_void [(.t 8)], some (7, false), []⟩,
   ⟨(some 10), .pick (.t 7) (.c (.b true)) (.t 9), none, []⟩,
   ⟨(some 11), .mv (.t 10), none, []⟩,
   ⟨(some 12), .fad 0 (.t 3), some (11, false), []⟩,
   ⟨(some 13), .fad 1 (.t 12), some (11, false), []⟩,
   ⟨(some 14), .ld none (.t 13), some (11, false), []⟩,
   ⟨(some 15), .len (.t 14), some (11, false), []⟩,
   ⟨(some 16), .bin .eql (.t 15) (.c (.i .i64 0)), some (11, false), []⟩,
   ⟨(some 17), .pick (.t 11) (.c (.b true)) (.t 16), none, []⟩])
  (.cond (.t 17)
  (.seq (.ops [⟨(some 18), .bld [(.b false), .nl, .nl] [], none, []⟩,
    ⟨none, .st (some 3) (.t 4) (.t 18), none, []⟩])
   (.ret))
  (.skip)))
  (.seq (.ops [⟨(some 19), .ld (some 3) (.t 2), none, []⟩,
   ⟨(some 20), .fad 0 (.t 3), none, []⟩,
   ⟨(some 21), .fad 0 (.t 20), none, []⟩,
   ⟨(some 22), .ld none (.t 21), none, []⟩,
   ⟨(some 23), .fad 2 (.t 3), none, []⟩,
   ⟨(some 24), .ld none (.t 23), none, []⟩,
   ⟨(some 25), .bld [(.b false), .nl] [(0, 1, (.t 22)), (1, 1, (.t 24))], none, []⟩,
   ⟨(some 26), .fad 0 (.t 3), none, []⟩,
   ⟨(some 27), .fad 1 (.t 26), none, []⟩,
   ⟨(some 28), .ld none (.t 27), none, []⟩,
   ⟨(some 29), .bld [(.b false), .nl, .nl] [(0, 2, (.t 25)), (2, 1, (.t 28))], none, []⟩,
   ⟨(some 30), .call true n_impl_mul [(.t 19), (.t 29)], none, []⟩,
   ⟨none, .st (some 3) (.t 4) (.t 30), none, []⟩])
  (.ret))), [.cell (some 3) 4]⟩
def K_impl_div (P : Program) (f : Nat) : Prop := ∀ p q : FQ, QC P f [qv p, qv q] (p.div q)
theorem t_impl_div {P : Program} {f n_impl_void n_impl_mul : Nat} (h : Has P f (c_impl_div n_impl_void n_impl_mul)) (k_impl_void : K_impl_void P n_impl_void) (k_impl_mul : K_impl_mul P n_impl_mul) : K_impl_div P f := by
  intro p q
  refine pc_go h (by simp) ?_
  rcases p.split with rfl | ⟨a, ha, rfl⟩
  · simp -implicitDefEqProofs (disch := omega) only [↓walk, plain, List.length_map, List.getElem?_map, Option.map_some, Nat.reduceBEq, decT, decF, iteT, iteF, wrap_ok, Int.reduceToNat, Int.reduceLE, Int.reduceLT, Int.reduceAdd, Int.reduceSub, Int.reduceNeg, reduceIte, Nat.reduceEqDiff, Nat.reduceAdd, Nat.reduceSub, Nat.reduceMul, Nat.reduceLeDiff, Nat.reduceShiftRight, Nat.reduceMod, reduceCtorEq, qv, qt]
    refine goCall_sc (k_impl_void FQ.void) (by repeat (first | exact vws_nil | refine vws_cons ?_ ?_ | exact vw_bb | exact vw_ii | exact vw_ss | exact vw_ints | exact vw_ints0 | exact vw_nn | exact vw_n0 | exact vw_bt | exact vw_qt | exact vw_bnat | exact vw_raw | exact vwl_nil | refine vwl_cons ?_ ?_ | refine vw_agg ?_ | refine vw_fn ?_ | assumption)) ?_
    simp -implicitDefEqProofs (disch := omega) only [↓walk, plain, List.length_map, List.getElem?_map, Option.map_some, Nat.reduceBEq, decT, decF, iteT, iteF, wrap_ok, Int.reduceToNat, Int.reduceLE, Int.reduceLT, Int.reduceAdd, Int.reduceSub, Int.reduceNeg, reduceIte, Nat.reduceEqDiff, Nat.reduceAdd, Nat.reduceSub, Nat.reduceMul, Nat.reduceLeDiff, Nat.reduceShiftRight, Nat.reduceMod, reduceCtorEq, decide_true]
    exact data_q0
  rcases q.split with rfl | ⟨b, hb, rfl⟩
  · rw [FQ.div_void]
    simp -implicitDefEqProofs (disch := omega) only [↓walk, plain, List.length_map, List.getElem?_map, Option.map_some, Nat.reduceBEq, decT, decF, iteT, iteF, wrap_ok, Int.reduceToNat, Int.reduceLE, Int.reduceLT, Int.reduceAdd, Int.reduceSub, Int.reduceNeg, reduceIte, Nat.reduceEqDiff, Nat.reduceAdd, Nat.reduceSub, Nat.reduceMul, Nat.reduceLeDiff, Nat.reduceShiftRight, Nat.reduceMod, reduceCtorEq, qv, qt]
    refine goCall_sc (k_impl_void (FQ.of a ha)) (by repeat (first | exact vws_nil | refine vws_cons ?_ ?_ | exact vw_bb | exact vw_ii | exact vw_ss | exact vw_ints | exact vw_ints0 | exact vw_nn | exact vw_n0 | exact vw_bt | exact vw_qt | exact vw_bnat | exact vw_raw | exact vwl_nil | refine vwl_cons ?_ ?_ | refine vw_agg ?_ | refine vw_fn ?_ | assumption)) ?_
    simp -implicitDefEqProofs (disch := omega) only [↓walk, plain, List.length_map, List.getElem?_map, Option.map_some, Nat.reduceBEq, decT, decF, iteT, iteF, wrap_ok, Int.reduceToNat, Int.reduceLE, Int.reduceLT, Int.reduceAdd, Int.reduceSub, Int.reduceNeg, reduceIte, Nat.reduceEqDiff, Nat.reduceAdd, Nat.reduceSub, Nat.reduceMul, Nat.reduceLeDiff, Nat.reduceShiftRight, Nat.reduceMod, reduceCtorEq, decide_eq_false (FQ.mk_ne ha)]
    refine goCall_sc (k_impl_void FQ.void) (by repeat (first | exact vws_nil | refine vws_cons ?_ ?_ | exact vw_bb | exact vw_ii | exact vw_ss | exact vw_ints | exact vw_ints0 | exact vw_nn | exact vw_n0 | exact vw_bt | exact vw_qt | exact vw_bnat | exact vw_raw | exact vwl_nil | refine vwl_cons ?_ ?_ | refine vw_agg ?_ | refine vw_fn ?_ | assumption)) ?_
    simp -implicitDefEqProofs (disch := omega) only [↓walk, plain, List.length_map, List.getElem?_map, Option.map_some, Nat.reduceBEq, decT, decF, iteT, iteF, wrap_ok, Int.reduceToNat, Int.reduceLE, Int.reduceLT, Int.reduceAdd, Int.reduceSub, Int.reduceNeg, reduceIte, Nat.reduceEqDiff, Nat.reduceAdd, Nat.reduceSub, Nat.reduceMul, Nat.reduceLeDiff, Nat.reduceShiftRight, Nat.reduceMod, reduceCtorEq, decide_true]
    exact data_q0
  by_cases h0 : b.num = 0
  · have e0 : (FQ.of b hb).nm.length = 0 := len0_iff.2 (by omega)
    rw [FQ.div_zero h0]
    simp -implicitDefEqProofs (disch := omega) only [↓walk, plain, List.length_map, List.getElem?_map, Option.map_some, Nat.reduceBEq, decT, decF, iteT, iteF, wrap_ok, Int.reduceToNat, Int.reduceLE, Int.reduceLT, Int.reduceAdd, Int.reduceSub, Int.reduceNeg, reduceIte, Nat.reduceEqDiff, Nat.reduceAdd, Nat.reduceSub, Nat.reduceMul, Nat.reduceLeDiff, Nat.reduceShiftRight, Nat.reduceMod, reduceCtorEq, qv, qt]
    refine goCall_sc (k_impl_void (FQ.of a ha)) (by repeat (first | exact vws_nil | refine vws_cons ?_ ?_ | exact vw_bb | exact vw_ii | exact vw_ss | exact vw_ints | exact vw_ints0 | exact vw_nn | exact vw_n0 | exact vw_bt | exact vw_qt | exact vw_bnat | exact vw_raw | exact vwl_nil | refine vwl_cons ?_ ?_ | refine vw_agg ?_ | refine vw_fn ?_ | assumption)) ?_
    simp -implicitDefEqProofs (disch := omega) only [↓walk, plain, List.length_map, List.getElem?_map, Option.map_some, Nat.reduceBEq, decT, decF, iteT, iteF, wrap_ok, Int.reduceToNat, Int.reduceLE, Int.reduceLT, Int.reduceAdd, Int.reduceSub, Int.reduceNeg, reduceIte, Nat.reduceEqDiff, Nat.reduceAdd, Nat.reduceSub, Nat.reduceMul, Nat.reduceLeDiff, Nat.reduceShiftRight, Nat.reduceMod, reduceCtorEq, decide_eq_false (FQ.mk_ne ha)]
    refine goCall_sc (k_impl_void (FQ.of b hb)) (by repeat (first | exact vws_nil | refine vws_cons ?_ ?_ | exact vw_bb | exact vw_ii | exact vw_ss | exact vw_ints | exact vw_ints0 | exact vw_nn | exact vw_n0 | exact vw_bt | exact vw_qt | exact vw_bnat | exact vw_raw | exact vwl_nil | refine vwl_cons ?_ ?_ | refine vw_agg ?_ | refine vw_fn ?_ | assumption)) ?_
    simp -implicitDefEqProofs (disch := omega) only [↓walk, plain, List.length_map, List.getElem?_map, Option.map_some, Nat.reduceBEq, decT, decF, iteT, iteF, wrap_ok, Int.reduceToNat, Int.reduceLE, Int.reduceLT, Int.reduceAdd, Int.reduceSub, Int.reduceNeg, reduceIte, Nat.reduceEqDiff, Nat.reduceAdd, Nat.reduceSub, Nat.reduceMul, Nat.reduceLeDiff, Nat.reduceShiftRight, Nat.reduceMod, reduceCtorEq, decide_eq_false (FQ.mk_ne hb), bb, e0]
    exact data_q0
  · have e0 := limbs_pos_len (d := b.num.natAbs) (by omega)
    rw [FQ.div_eq h0]
    simp -implicitDefEqProofs (disch := omega) only [↓walk, plain, List.length_map, List.getElem?_map, Option.map_some, Nat.reduceBEq, decT, decF, iteT, iteF, wrap_ok, Int.reduceToNat, Int.reduceLE, Int.reduceLT, Int.reduceAdd, Int.reduceSub, Int.reduceNeg, reduceIte, Nat.reduceEqDiff, Nat.reduceAdd, Nat.reduceSub, Nat.reduceMul, Nat.reduceLeDiff, Nat.reduceShiftRight, Nat.reduceMod, reduceCtorEq, qv, qt, FQ.mk_sg, FQ.mk_nm, FQ.mk_dn]
    refine goCall_sc (k_impl_void (FQ.of a ha)) (by repeat (first | exact vws_nil | refine vws_cons ?_ ?_ | exact vw_bb | exact vw_ii | exact vw_ss | exact vw_ints | exact vw_ints0 | exact vw_nn | exact vw_n0 | exact vw_bt | exact vw_qt | exact vw_bnat | exact vw_raw | exact vwl_nil | refine vwl_cons ?_ ?_ | refine vw_agg ?_ | refine vw_fn ?_ | assumption)) ?_
    simp -implicitDefEqProofs (disch := omega) only [↓walk, plain, List.length_map, List.getElem?_map, Option.map_some, Nat.reduceBEq, decT, decF, iteT, iteF, wrap_ok, Int.reduceToNat, Int.reduceLE, Int.reduceLT, Int.reduceAdd, Int.reduceSub, Int.reduceNeg, reduceIte, Nat.reduceEqDiff, Nat.reduceAdd, Nat.reduceSub, Nat.reduceMul, Nat.reduceLeDiff, Nat.reduceShiftRight, Nat.reduceMod, reduceCtorEq, decide_eq_false (FQ.mk_ne ha)]
    refine goCall_sc (k_impl_void (FQ.of b hb)) (by repeat (first | exact vws_nil | refine vws_cons ?_ ?_ | exact vw_bb | exact vw_ii | exact vw_ss | exact vw_ints | exact vw_ints0 | exact vw_nn | exact vw_n0 | exact vw_bt | exact vw_qt | exact vw_bnat | exact vw_raw | exact vwl_nil | refine vwl_cons ?_ ?_ | refine vw_agg ?_ | refine vw_fn ?_ | assumption)) ?_
    simp -implicitDefEqProofs (disch := omega) only [↓walk, plain, List.length_map, List.getElem?_map, Option.map_some, Nat.reduceBEq, decT, decF, iteT, iteF, wrap_ok, Int.reduceToNat, Int.reduceLE, Int.reduceLT, Int.reduceAdd, Int.reduceSub, Int.reduceNeg, reduceIte, Nat.reduceEqDiff, Nat.reduceAdd, Nat.reduceSub, Nat.reduceMul, Nat.reduceLeDiff, Nat.reduceShiftRight, Nat.reduceMod, reduceCtorEq, decide_eq_false (FQ.mk_ne hb), bb]
    refine goCall_qc (k_impl_mul (FQ.of a ha) (FQ.of b⁻¹ (fits_inv h0 hb))) (vws_cons (vw_qt (u := none) (w := none) (p := FQ.of a ha)) (vws_cons ?_ vws_nil)) ?_
    · rw [qv, qt, FQ.mk_sg, FQ.mk_nm, FQ.mk_dn, num_inv_neg h0, num_inv_abs h0, den_inv' h0]
      exact vw_agg (vwl_cons vw_bb (vwl_cons vw_ints (vwl_cons vw_ints vwl_nil)))
    simp -implicitDefEqProofs (disch := omega) only [↓walk, plain, List.length_map, List.getElem?_map, Option.map_some, Nat.reduceBEq, decT, decF, iteT, iteF, wrap_ok, Int.reduceToNat, Int.reduceLE, Int.reduceLT, Int.reduceAdd, Int.reduceSub, Int.reduceNeg, reduceIte, Nat.reduceEqDiff, Nat.reduceAdd, Nat.reduceSub, Nat.reduceMul, Nat.reduceLeDiff, Nat.reduceShiftRight, Nat.reduceMod, reduceCtorEq, qt]
    exact data_qt rfl (by omega)
def c_impl_cmp (n_impl_bigMul : Nat) (n_impl_bigCmp : Nat) : AF := ⟨18, .seq (.ops [⟨(some 2), .box (.t 0), none, []⟩,
   ⟨(some 3), .box (.t 1), none, []⟩,
   ⟨(some 4), .mv (.c (.i .i64 0)), none, []⟩])
  (.seq (.opsd [(0, ⟨(some 5), .fad 0 (.t 2), none, []⟩),
   (1, ⟨(some 6), .ld (some 2) (.t 5), none, []⟩),
   (2, ⟨(some 7), .fad 2 (.t 3), none, []⟩),
   (3, ⟨(some 8), .ld none (.t 7), none, []⟩),
   (4, ⟨(some 9), .bld [(.b false), .nl] [(1, 1, (.t 8))], none, []⟩),
   (6, ⟨(some 11), .fad 0 (.t 3), none, []⟩),
   (7, ⟨(some 12), .ld (some 2) (.t 11), none, []⟩),
   (8, ⟨(some 13), .fad 2 (.t 2), none, []⟩),
   (9, ⟨(some 14), .ld none (.t 13), none, []⟩),
   (10, ⟨(some 15), .bld [(.b false), .nl] [(1, 1, (.t 14))], none, []⟩),
   (5, ⟨(some 10), .call false n_impl_bigMul [(.t 6), (.t 9)], none, []⟩),
   (11, ⟨(some 16), .call false n_impl_bigMul [(.t 12), (.t 15)], none, []⟩),
   (12, ⟨(some 17), .call false n_impl_bigCmp [(.t 10), (.t 16)], none, []⟩),
   (13, ⟨(some 4), .mv (.t 17), none, []⟩)])
  (.ret)), [.t 4]⟩
def K_impl_cmp (P : Program) (f : Nat) : Prop := ∀ p q : FQ, SC P f [qv p, qv q] (.i .i64 (FQ.cmp p q))
theorem t_impl_cmp {P : Program} {f n_impl_bigMul n_impl_bigCmp : Nat} (h : Has P f (c_impl_cmp n_impl_bigMul n_impl_bigCmp)) (k_impl_bigMul : K_impl_bigMul P n_impl_bigMul) (k_impl_bigCmp : K_impl_bigCmp P n_impl_bigCmp) : K_impl_cmp P f := by
  intro p q
  refine sc_go h (by simp) ?_
  have l1 := p.zlen
  have l2 := p.dlen
  have l3 := q.zlen
  have l4 := q.dlen
  have m1 := lenI_mul l1 (show (limbs (q.dN : Int).natAbs).length ≤ 24 by rw [Int.natAbs_natCast]; omega)
  have m2 := lenI_mul l3 (show (limbs (p.dN : Int).natAbs).length ≤ 24 by rw [Int.natAbs_natCast]; omega)
  simp -implicitDefEqProofs (disch := omega) only [↓walk, plain, List.length_map, List.getElem?_map, Option.map_some, Nat.reduceBEq, decT, decF, iteT, iteF, wrap_ok, Int.reduceToNat, Int.reduceLE, Int.reduceLT, Int.reduceAdd, Int.reduceSub, Int.reduceNeg, reduceIte, Nat.reduceEqDiff, Nat.reduceAdd, Nat.reduceSub, Nat.reduceMul, Nat.reduceLeDiff, Nat.reduceShiftRight, Nat.reduceMod, reduceCtorEq, qv_eq]
  refine goCall_bc (k_impl_bigMul p.zN q.dN (by omega) (by rw [Int.natAbs_natCast]; omega)) (by repeat (first | exact vws_nil | refine vws_cons ?_ ?_ | exact vw_bb | exact vw_ii | exact vw_ss | exact vw_ints | exact vw_ints0 | exact vw_nn | exact vw_n0 | exact vw_bt | exact vw_qt | exact vw_bnat | exact vw_raw | exact vwl_nil | refine vwl_cons ?_ ?_ | refine vw_agg ?_ | refine vw_fn ?_ | assumption)) ?_
  simp -implicitDefEqProofs (disch := omega) only [↓walk, plain, List.length_map, List.getElem?_map, Option.map_some, Nat.reduceBEq, decT, decF, iteT, iteF, wrap_ok, Int.reduceToNat, Int.reduceLE, Int.reduceLT, Int.reduceAdd, Int.reduceSub, Int.reduceNeg, reduceIte, Nat.reduceEqDiff, Nat.reduceAdd, Nat.reduceSub, Nat.reduceMul, Nat.reduceLeDiff, Nat.reduceShiftRight, Nat.reduceMod, reduceCtorEq]
  refine goCall_bc (k_impl_bigMul q.zN p.dN (by omega) (by rw [Int.natAbs_natCast]; omega)) (by repeat (first | exact vws_nil | refine vws_cons ?_ ?_ | exact vw_bb | exact vw_ii | exact vw_ss | exact vw_ints | exact vw_ints0 | exact vw_nn | exact vw_n0 | exact vw_bt | exact vw_qt | exact vw_bnat | exact vw_raw | exact vwl_nil | refine vwl_cons ?_ ?_ | refine vw_agg ?_ | refine vw_fn ?_ | assumption)) ?_
  simp -implicitDefEqProofs (disch := omega) only [↓walk, plain, List.length_map, List.getElem?_map, Option.map_some, Nat.reduceBEq, decT, decF, iteT, iteF, wrap_ok, Int.reduceToNat, Int.reduceLE, Int.reduceLT, Int.reduceAdd, Int.reduceSub, Int.reduceNeg, reduceIte, Nat.reduceEqDiff, Nat.reduceAdd, Nat.reduceSub, Nat.reduceMul, Nat.reduceLeDiff, Nat.reduceShiftRight, Nat.reduceMod, reduceCtorEq]
  refine goCall_sc (k_impl_bigCmp (p.zN * q.dN) (q.zN * p.dN) (by omega) (by omega)) (by repeat (first | exact vws_nil | refine vws_cons ?_ ?_ | exact vw_bb | exact vw_ii | exact vw_ss | exact vw_ints | exact vw_ints0 | exact vw_nn | exact vw_n0 | exact vw_bt | exact vw_qt | exact vw_bnat | exact vw_raw | exact vwl_nil | refine vwl_cons ?_ ?_ | refine vw_agg ?_ | refine vw_fn ?_ | assumption)) ?_
  simp -implicitDefEqProofs (disch := omega) only [↓walk, plain, List.length_map, List.getElem?_map, Option.map_some, Nat.reduceBEq, decT, decF, iteT, iteF, wrap_ok, Int.reduceToNat, Int.reduceLE, Int.reduceLT, Int.reduceAdd, Int.reduceSub, Int.reduceNeg, reduceIte, Nat.reduceEqDiff, Nat.reduceAdd, Nat.reduceSub, Nat.reduceMul, Nat.reduceLeDiff, Nat.reduceShiftRight, Nat.reduceMod, reduceCtorEq]
  exact data_i rfl
def c_impl_BigIntOk (n_impl_NatOk : Nat) : AF := ⟨17, .seq (.ops [⟨(some 1), .box (.t 0), none, []⟩,
   ⟨(some 2), .mv (.c (.b false)), none, []⟩])
  (.seq (.ops [⟨(some 3), .fad 1 (.t 1), none, []⟩,
   ⟨(some 4), .ld none (.t 3), none, []⟩,
   ⟨(some 5), .call true n_impl_NatOk [(.t 4)], none, []⟩,
   ⟨(some 6), .mv (.t 5), none, []⟩,
   ⟨(some 7), .fad 1 (.t 1), some (6, true), []⟩,
   ⟨(some 8), .ld none (.t 7), some (6, true), []⟩,
   ⟨(some 9), .len (.t 8), some (6, true), []⟩,
   ⟨(some 10), .bin .gtr (.t 9) (.c (.i .i64 0)), some (6, true), []⟩,
   ⟨(some 11), .mv (.t 10), some (6, true), []⟩,
   ⟨(some 12), .fad 0 (.t 1), some (11, false), []⟩,
   ⟨(some 13), .ld none (.t 12), some (11, false), []⟩,
   ⟨(some 14), .not (.t 13), some (11, false), []⟩,
   ⟨(some 15), .pick (.t 11) (.c (.b true)) (.t 14), some (6, true), []⟩,
   ⟨(some 16), .pick (.t 6) (.t 15) (.c (.b false)), none, []⟩,
   ⟨(some 2), .mv (.t 16), none, []⟩])
  (.ret)), [.t 2]⟩
def K_impl_BigIntOk (P : Program) (f : Nat) : Prop := ∀ (b : Bool) (xs : List Int), xs.length < 9223372036854775808 → SC P f [.agg [.b b, ints xs]] (.b (bok b xs))
theorem t_impl_BigIntOk {P : Program} {f n_impl_NatOk : Nat} (h : Has P f (c_impl_BigIntOk n_impl_NatOk)) (k_impl_NatOk : K_impl_NatOk P n_impl_NatOk) : K_impl_BigIntOk P f := by
  intro b xs hx
  refine sc_go h (by simp) ?_
  by_cases h1 : NOk xs
  · simp -implicitDefEqProofs (disch := omega) only [↓walk, plain, List.length_map, List.getElem?_map, Option.map_some, Nat.reduceBEq, decT, decF, iteT, iteF, wrap_ok, Int.reduceToNat, Int.reduceLE, Int.reduceLT, Int.reduceAdd, Int.reduceSub, Int.reduceNeg, reduceIte, Nat.reduceEqDiff, Nat.reduceAdd, Nat.reduceSub, Nat.reduceMul, Nat.reduceLeDiff, Nat.reduceShiftRight, Nat.reduceMod, reduceCtorEq, ints]
    refine goCall_sc (k_impl_NatOk xs hx) (by repeat (first | exact vws_nil | refine vws_cons ?_ ?_ | exact vw_bb | exact vw_ii | exact vw_ss | exact vw_ints | exact vw_ints0 | exact vw_nn | exact vw_n0 | exact vw_bt | exact vw_qt | exact vw_bnat | exact vw_raw | exact vwl_nil | refine vwl_cons ?_ ?_ | refine vw_agg ?_ | refine vw_fn ?_ | assumption)) ?_
    by_cases h2 : xs.length = 0
    · have e0 : xs = [] := List.length_eq_zero_iff.1 h2
      cases b
      · simp -implicitDefEqProofs (disch := omega) only [↓walk, plain, List.length_map, List.getElem?_map, Option.map_some, Nat.reduceBEq, decT, decF, iteT, iteF, wrap_ok, Int.reduceToNat, Int.reduceLE, Int.reduceLT, Int.reduceAdd, Int.reduceSub, Int.reduceNeg, reduceIte, Nat.reduceEqDiff, Nat.reduceAdd, Nat.reduceSub, Nat.reduceMul, Nat.reduceLeDiff, Nat.reduceShiftRight, Nat.reduceMod, reduceCtorEq, nok_t h1, bb, h2]
        exact data_b (bok_t ⟨h1, fun e => by cases e⟩).symm
      · simp -implicitDefEqProofs (disch := omega) only [↓walk, plain, List.length_map, List.getElem?_map, Option.map_some, Nat.reduceBEq, decT, decF, iteT, iteF, wrap_ok, Int.reduceToNat, Int.reduceLE, Int.reduceLT, Int.reduceAdd, Int.reduceSub, Int.reduceNeg, reduceIte, Nat.reduceEqDiff, Nat.reduceAdd, Nat.reduceSub, Nat.reduceMul, Nat.reduceLeDiff, Nat.reduceShiftRight, Nat.reduceMod, reduceCtorEq, nok_t h1, bb, h2]
        exact data_b (bok_f (fun hh => hh.2 rfl e0)).symm
    · simp -implicitDefEqProofs (disch := omega) only [↓walk, plain, List.length_map, List.getElem?_map, Option.map_some, Nat.reduceBEq, decT, decF, iteT, iteF, wrap_ok, Int.reduceToNat, Int.reduceLE, Int.reduceLT, Int.reduceAdd, Int.reduceSub, Int.reduceNeg, reduceIte, Nat.reduceEqDiff, Nat.reduceAdd, Nat.reduceSub, Nat.reduceMul, Nat.reduceLeDiff, Nat.reduceShiftRight, Nat.reduceMod, reduceCtorEq, nok_t h1, bb]
      exact data_b (bok_t ⟨h1, fun _ e => h2 (by rw [e]; rfl)⟩).symm
  · simp -implicitDefEqProofs (disch := omega) only [↓walk, plain, List.length_map, List.getElem?_map, Option.map_some, Nat.reduceBEq, decT, decF, iteT, iteF, wrap_ok, Int.reduceToNat, Int.reduceLE, Int.reduceLT, Int.reduceAdd, Int.reduceSub, Int.reduceNeg, reduceIte, Nat.reduceEqDiff, Nat.reduceAdd, Nat.reduceSub, Nat.reduceMul, Nat.reduceLeDiff, Nat.reduceShiftRight, Nat.reduceMod, reduceCtorEq, ints]
    refine goCall_sc (k_impl_NatOk xs hx) (by repeat (first | exact vws_nil | refine vws_cons ?_ ?_ | exact vw_bb | exact vw_ii | exact vw_ss | exact vw_ints | exact vw_ints0 | exact vw_nn | exact vw_n0 | exact vw_bt | exact vw_qt | exact vw_bnat | exact vw_raw | exact vwl_nil | refine vwl_cons ?_ ?_ | refine vw_agg ?_ | refine vw_fn ?_ | assumption)) ?_
    simp -implicitDefEqProofs (disch := omega) only [↓walk, plain, List.length_map, List.getElem?_map, Option.map_some, Nat.reduceBEq, decT, decF, iteT, iteF, wrap_ok, Int.reduceToNat, Int.reduceLE, Int.reduceLT, Int.reduceAdd, Int.reduceSub, Int.reduceNeg, reduceIte, Nat.reduceEqDiff, Nat.reduceAdd, Nat.reduceSub, Nat.reduceMul, Nat.reduceLeDiff, Nat.reduceShiftRight, Nat.reduceMod, reduceCtorEq, nok_f h1, bb]
    exact data_b (bok_f (fun hh => h1 hh.1)).symm
def c_impl_RatOk (n_impl_BigIntOk : Nat) (n_impl_NatOk : Nat) (n_impl_natGcd : Nat) (n_impl_isOne : Nat) : AF := ⟨39, .seq (.ops [⟨(some 1), .box (.t 0), none, []⟩,
   ⟨(some 2), .mv (.c (.b false)), none, []⟩])
  (.seq (.seq (.ops [⟨(some 3), .fad 0 (.t 1), none, []⟩,
   ⟨(some 4), .ld (some 2) (.t 3), none, []⟩,
   ⟨(some 5), .call true n_impl_BigIntOk [(.t 4)], none, []⟩,
   ⟨(some 6), .not (.t 5), none, []⟩,
   ⟨(some 7), .mv (.t 6), none, []⟩,
   ⟨(some 8), .fad 2 (.t 1), some (7, false), []⟩,
   ⟨(some 9), .ld none (.t 8), some (7, false), []⟩,
   ⟨(some 10), .call true n_impl_NatOk [(.t 9)], some (7, false), []⟩,
   ⟨(some 11), .not (.t 10), some (7, false), []⟩,
   ⟨(some 12), .pick (.t 7) (.c (.b true)) (.t 11), none, []⟩,
   ⟨(some 13), .mv (.t 12), none, []⟩,
   ⟨(some 14), .fad 2 (.t 1), some (13, false), []⟩,
   ⟨(some 15), .ld none (.t 14), some (13, false), []⟩,
   ⟨(some 16), .len (.t 15), some (13, false), []⟩,
   ⟨(some 17), .bin .eql (.t 16) (.c (.i .i64 0)), some (13, false), []⟩,
   ⟨(some 18), .pick (.t 13) (.c (.b true)) (.t 17), none, []⟩,
   ⟨(some 19), .mv (.t 18), none, []⟩,
   ⟨(some 20), .fad 0 (.t 1), some (19, false), []⟩,
   ⟨(some 21), .fad 1 (.t 20), some (19, false), []⟩,
   ⟨(some 22), .ld none (.t 21), some (19, false), []⟩,
   ⟨(some 23), .len (.t 22), some (19, false), []⟩,
   ⟨(some 24), .bin .gtr (.t 23) (.c (.i .i64 24)), some (19, false), []⟩,
   ⟨(some 25), .pick (.t 19) (.c (.b true)) (.t 24), none, []⟩,
   ⟨(some 26), .mv (.t 25), none, []⟩,
   ⟨(some 27), .fad 2 (.t 1), some (26, false), []⟩,
   ⟨(some 28), .ld none (.t 27), some (26, false), []⟩,
   ⟨(some 29), .len (.t 28), some (26, false), []⟩,
   ⟨(some 30), .bin .gtr (.t 29) (.c (.i .i64 24)), some (26, false), []⟩,
   ⟨(some 31), .pick (.t 26) (.c (.b true)) (.t 30), none, []⟩])
  (.cond (.t 31)
  (.seq (.ops [⟨(some 2), .mv (.c (.b false)), none, []⟩])
   (.ret))
  (.skip)))
  (.seq (.ops [⟨(some 32), .fad 2 (.t 1), none, []⟩,
   ⟨(some 33), .ld none (.t 32), none, []⟩,
   ⟨(some 34), .fad 0 (.t 1), none, []⟩,
   ⟨(some 35), .fad 1 (.t 34), none, []⟩,
   ⟨(some 36), .ld none (.t 35), none, []⟩,
   ⟨(some 37), .call true n_impl_natGcd [(.t 33), (.t 36)], none, []⟩,
   ⟨(some 38), .call true n_impl_isOne [(.t 37)], none, []⟩,
   ⟨(some 2), .mv (.t 38), none, []⟩])
  (.ret))), [.t 2]⟩
def K_impl_RatOk (P : Program) (f : Nat) : Prop := ∀ (b : Bool) (xs ys : List Int), xs.length < 9223372036854775808 → ys.length < 9223372036854775808 → SC P f [rawq b xs ys] (.b (rok b xs ys))
theorem t_impl_RatOk {P : Program} {f n_impl_BigIntOk n_impl_NatOk n_impl_natGcd n_impl_isOne : Nat} (h : Has P f (c_impl_RatOk n_impl_BigIntOk n_impl_NatOk n_impl_natGcd n_impl_isOne)) (k_impl_BigIntOk : K_impl_BigIntOk P n_impl_BigIntOk) (k_impl_NatOk : K_impl_NatOk P n_impl_NatOk) (k_impl_natGcd : K_impl_natGcd P n_impl_natGcd) (k_impl_isOne : K_impl_isOne P n_impl_isOne) : K_impl_RatOk P f := by
  intro b xs ys hx hy
  refine sc_go h (by simp) ?_
  simp -implicitDefEqProofs (disch := omega) only [↓walk, plain, List.length_map, List.getElem?_map, Option.map_some, Nat.reduceBEq, decT, decF, iteT, iteF, wrap_ok, Int.reduceToNat, Int.reduceLE, Int.reduceLT, Int.reduceAdd, Int.reduceSub, Int.reduceNeg, reduceIte, Nat.reduceEqDiff, Nat.reduceAdd, Nat.reduceSub, Nat.reduceMul, Nat.reduceLeDiff, Nat.reduceShiftRight, Nat.reduceMod, reduceCtorEq, rawq, ints]
  refine goCall_sc (k_impl_BigIntOk b xs hx) (by repeat (first | exact vws_nil | refine vws_cons ?_ ?_ | exact vw_bb | exact vw_ii | exact vw_ss | exact vw_ints | exact vw_ints0 | exact vw_nn | exact vw_n0 | exact vw_bt | exact vw_qt | exact vw_bnat | exact vw_raw | exact vwl_nil | refine vwl_cons ?_ ?_ | refine vw_agg ?_ | refine vw_fn ?_ | assumption)) ?_
  by_cases h1 : BOk b xs
  · simp -implicitDefEqProofs (disch := omega) only [↓walk, plain, List.length_map, List.getElem?_map, Option.map_some, Nat.reduceBEq, decT, decF, iteT, iteF, wrap_ok, Int.reduceToNat, Int.reduceLE, Int.reduceLT, Int.reduceAdd, Int.reduceSub, Int.reduceNeg, reduceIte, Nat.reduceEqDiff, Nat.reduceAdd, Nat.reduceSub, Nat.reduceMul, Nat.reduceLeDiff, Nat.reduceShiftRight, Nat.reduceMod, reduceCtorEq, bok_t h1, bb]
    refine goCall_sc (k_impl_NatOk ys hy) (by repeat (first | exact vws_nil | refine vws_cons ?_ ?_ | exact vw_bb | exact vw_ii | exact vw_ss | exact vw_ints | exact vw_ints0 | exact vw_nn | exact vw_n0 | exact vw_bt | exact vw_qt | exact vw_bnat | exact vw_raw | exact vwl_nil | refine vwl_cons ?_ ?_ | refine vw_agg ?_ | refine vw_fn ?_ | assumption)) ?_
    by_cases h2 : NOk ys
    · by_cases h3 : ys.length = 0
      · have e0 : ys = [] := List.length_eq_zero_iff.1 h3
        simp -implicitDefEqProofs (disch := omega) only [↓walk, plain, List.length_map, List.getElem?_map, Option.map_some, Nat.reduceBEq, decT, decF, iteT, iteF, wrap_ok, Int.reduceToNat, Int.reduceLE, Int.reduceLT, Int.reduceAdd, Int.reduceSub, Int.reduceNeg, reduceIte, Nat.reduceEqDiff, Nat.reduceAdd, Nat.reduceSub, Nat.reduceMul, Nat.reduceLeDiff, Nat.reduceShiftRight, Nat.reduceMod, reduceCtorEq, nok_t h2, bb, h3]
        exact data_b (rok_f (fun hh => hh.conv.2.2.1 e0)).symm
      · by_cases h4 : xs.length ≤ 24
        · by_cases h5 : ys.length ≤ 24
          · simp -implicitDefEqProofs (disch := omega) only [↓walk, plain, List.length_map, List.getElem?_map, Option.map_some, Nat.reduceBEq, decT, decF, iteT, iteF, wrap_ok, Int.reduceToNat, Int.reduceLE, Int.reduceLT, Int.reduceAdd, Int.reduceSub, Int.reduceNeg, reduceIte, Nat.reduceEqDiff, Nat.reduceAdd, Nat.reduceSub, Nat.reduceMul, Nat.reduceLeDiff, Nat.reduceShiftRight, Nat.reduceMod, reduceCtorEq, nok_t h2, bb]
            obtain ⟨m, em, lm⟩ := h1.1.eq
            obtain ⟨d, ed, ld⟩ := h2.eq
            subst em; subst ed
            have hd : d ≠ 0 := fun e => h3 (len0_iff.2 e)
            have l3 := limbs_len_mono (Nat.le_of_dvd (by omega) (Nat.gcd_dvd_left d m))
            refine goCall_fc (k_impl_natGcd d m (by omega) (by omega) (by omega)) (by repeat (first | exact vws_nil | refine vws_cons ?_ ?_ | exact vw_bb | exact vw_ii | exact vw_ss | exact vw_ints | exact vw_ints0 | exact vw_nn | exact vw_n0 | exact vw_bt | exact vw_qt | exact vw_bnat | exact vw_raw | exact vwl_nil | refine vwl_cons ?_ ?_ | refine vw_agg ?_ | refine vw_fn ?_ | assumption)) ?_
            simp -implicitDefEqProofs (disch := omega) only [↓walk, plain, List.length_map, List.getElem?_map, Option.map_some, Nat.reduceBEq, decT, decF, iteT, iteF, wrap_ok, Int.reduceToNat, Int.reduceLE, Int.reduceLT, Int.reduceAdd, Int.reduceSub, Int.reduceNeg, reduceIte, Nat.reduceEqDiff, Nat.reduceAdd, Nat.reduceSub, Nat.reduceMul, Nat.reduceLeDiff, Nat.reduceShiftRight, Nat.reduceMod, reduceCtorEq]
            refine goCall_sc (k_impl_isOne (limbs (Nat.gcd d m)) (by omega)) (by repeat (first | exact vws_nil | refine vws_cons ?_ ?_ | exact vw_bb | exact vw_ii | exact vw_ss | exact vw_ints | exact vw_ints0 | exact vw_nn | exact vw_n0 | exact vw_bt | exact vw_qt | exact vw_bnat | exact vw_raw | exact vwl_nil | refine vwl_cons ?_ ?_ | refine vw_agg ?_ | refine vw_fn ?_ | assumption)) ?_
            by_cases h6 : Nat.gcd d m = 1
            · simp -implicitDefEqProofs (disch := omega) only [↓walk, plain, List.length_map, List.getElem?_map, Option.map_some, Nat.reduceBEq, decT, decF, iteT, iteF, wrap_ok, Int.reduceToNat, Int.reduceLE, Int.reduceLT, Int.reduceAdd, Int.reduceSub, Int.reduceNeg, reduceIte, Nat.reduceEqDiff, Nat.reduceAdd, Nat.reduceSub, Nat.reduceMul, Nat.reduceLeDiff, Nat.reduceShiftRight, Nat.reduceMod, reduceCtorEq, decide_eq_true (one_iff.2 h6)]
              exact data_b (rok_t (rok_of (fun hb hm => h1.2 hb (limbs_nil.2 hm)) hd h4 h5 h6)).symm
            · simp -implicitDefEqProofs (disch := omega) only [↓walk, plain, List.length_map, List.getElem?_map, Option.map_some, Nat.reduceBEq, decT, decF, iteT, iteF, wrap_ok, Int.reduceToNat, Int.reduceLE, Int.reduceLT, Int.reduceAdd, Int.reduceSub, Int.reduceNeg, reduceIte, Nat.reduceEqDiff, Nat.reduceAdd, Nat.reduceSub, Nat.reduceMul, Nat.reduceLeDiff, Nat.reduceShiftRight, Nat.reduceMod, reduceCtorEq, decide_eq_false (fun e => h6 (one_iff.1 e) : ¬ limbs (Nat.gcd d m) = [1])]
              exact data_b (rok_f (fun hh => h6 (hh.conv.2.2.2.2.2 m d rfl rfl))).symm
          · simp -implicitDefEqProofs (disch := omega) only [↓walk, plain, List.length_map, List.getElem?_map, Option.map_some, Nat.reduceBEq, decT, decF, iteT, iteF, wrap_ok, Int.reduceToNat, Int.reduceLE, Int.reduceLT, Int.reduceAdd, Int.reduceSub, Int.reduceNeg, reduceIte, Nat.reduceEqDiff, Nat.reduceAdd, Nat.reduceSub, Nat.reduceMul, Nat.reduceLeDiff, Nat.reduceShiftRight, Nat.reduceMod, reduceCtorEq, nok_t h2, bb]
            exact data_b (rok_f (fun hh => h5 hh.conv.2.2.2.2.1)).symm
        · simp -implicitDefEqProofs (disch := omega) only [↓walk, plain, List.length_map, List.getElem?_map, Option.map_some, Nat.reduceBEq, decT, decF, iteT, iteF, wrap_ok, Int.reduceToNat, Int.reduceLE, Int.reduceLT, Int.reduceAdd, Int.reduceSub, Int.reduceNeg, reduceIte, Nat.reduceEqDiff, Nat.reduceAdd, Nat.reduceSub, Nat.reduceMul, Nat.reduceLeDiff, Nat.reduceShiftRight, Nat.reduceMod, reduceCtorEq, nok_t h2, bb]
          exact data_b (rok_f (fun hh => h4 hh.conv.2.2.2.1)).symm
    · simp -implicitDefEqProofs (disch := omega) only [↓walk, plain, List.length_map, List.getElem?_map, Option.map_some, Nat.reduceBEq, decT, decF, iteT, iteF, wrap_ok, Int.reduceToNat, Int.reduceLE, Int.reduceLT, Int.reduceAdd, Int.reduceSub, Int.reduceNeg, reduceIte, Nat.reduceEqDiff, Nat.reduceAdd, Nat.reduceSub, Nat.reduceMul, Nat.reduceLeDiff, Nat.reduceShiftRight, Nat.reduceMod, reduceCtorEq, nok_f h2, bb]
      exact data_b (rok_f (fun hh => h2 hh.conv.2.1)).symm
  · simp -implicitDefEqProofs (disch := omega) only [↓walk, plain, List.length_map, List.getElem?_map, Option.map_some, Nat.reduceBEq, decT, decF, iteT, iteF, wrap_ok, Int.reduceToNat, Int.reduceLE, Int.reduceLT, Int.reduceAdd, Int.reduceSub, Int.reduceNeg, reduceIte, Nat.reduceEqDiff, Nat.reduceAdd, Nat.reduceSub, Nat.reduceMul, Nat.reduceLeDiff, Nat.reduceShiftRight, Nat.reduceMod, reduceCtorEq, bok_f h1, bb]
    exact data_b (rok_f (fun hh => h1 hh.conv.1)).symm
def c_impl_both (n_impl_RatOk : Nat) : AF := ⟨11, .seq (.ops [⟨(some 2), .box (.t 0), none, []⟩,
   ⟨(some 3), .box (.t 1), none, []⟩,
   ⟨(some 4), .mv (.c (.b false)), none, []⟩])
  (.seq (.ops [⟨(some 5), .ld (some 3) (.t 2), none, []⟩,
   ⟨(some 6), .call true n_impl_RatOk [(.t 5)], none, []⟩,
   ⟨(some 7), .mv (.t 6), none, []⟩,
   ⟨(some 8), .ld (some 3) (.t 3), some (7, true), []⟩,
   ⟨(some 9), .call true n_impl_RatOk [(.t 8)], some (7, true), []⟩,
   ⟨(some 10), .pick (.t 7) (.t 9) (.c (.b false)), none, []⟩,
   ⟨(some 4), .mv (.t 10), none, []⟩])
  (.ret)), [.t 4]⟩
def K_impl_both (P : Program) (f : Nat) : Prop := ∀ (b : Bool) (xs ys : List Int) (b2 : Bool) (xs2 ys2 : List Int), xs.length < 9223372036854775808 → ys.length < 9223372036854775808 → xs2.length < 9223372036854775808 → ys2.length < 9223372036854775808 → SC P f [rawq b xs ys, rawq b2 xs2 ys2] (.b (rok b xs ys && rok b2 xs2 ys2))
theorem t_impl_both {P : Program} {f n_impl_RatOk : Nat} (h : Has P f (c_impl_both n_impl_RatOk)) (k_impl_RatOk : K_impl_RatOk P n_impl_RatOk) : K_impl_both P f := by
  intro b xs ys b2 xs2 ys2 h1 h2 h3 h4
  refine sc_go h (by simp) ?_
  simp -implicitDefEqProofs (disch := omega) only [↓walk, plain, List.length_map, List.getElem?_map, Option.map_some, Nat.reduceBEq, decT, decF, iteT, iteF, wrap_ok, Int.reduceToNat, Int.reduceLE, Int.reduceLT, Int.reduceAdd, Int.reduceSub, Int.reduceNeg, reduceIte, Nat.reduceEqDiff, Nat.reduceAdd, Nat.reduceSub, Nat.reduceMul, Nat.reduceLeDiff, Nat.reduceShiftRight, Nat.reduceMod, reduceCtorEq, rawq, ints]
  refine goCall_sc (k_impl_RatOk b xs ys h1 h2) (by repeat (first | exact vws_nil | refine vws_cons ?_ ?_ | exact vw_bb | exact vw_ii | exact vw_ss | exact vw_ints | exact vw_ints0 | exact vw_nn | exact vw_n0 | exact vw_bt | exact vw_qt | exact vw_bnat | exact vw_raw | exact vwl_nil | refine vwl_cons ?_ ?_ | refine vw_agg ?_ | refine vw_fn ?_ | assumption)) ?_
  cases hr : rok b xs ys
  · simp -implicitDefEqProofs (disch := omega) only [↓walk, plain, List.length_map, List.getElem?_map, Option.map_some, Nat.reduceBEq, decT, decF, iteT, iteF, wrap_ok, Int.reduceToNat, Int.reduceLE, Int.reduceLT, Int.reduceAdd, Int.reduceSub, Int.reduceNeg, reduceIte, Nat.reduceEqDiff, Nat.reduceAdd, Nat.reduceSub, Nat.reduceMul, Nat.reduceLeDiff, Nat.reduceShiftRight, Nat.reduceMod, reduceCtorEq]
    exact data_b (by simp)
  · simp -implicitDefEqProofs (disch := omega) only [↓walk, plain, List.length_map, List.getElem?_map, Option.map_some, Nat.reduceBEq, decT, decF, iteT, iteF, wrap_ok, Int.reduceToNat, Int.reduceLE, Int.reduceLT, Int.reduceAdd, Int.reduceSub, Int.reduceNeg, reduceIte, Nat.reduceEqDiff, Nat.reduceAdd, Nat.reduceSub, Nat.reduceMul, Nat.reduceLeDiff, Nat.reduceShiftRight, Nat.reduceMod, reduceCtorEq]
    refine goCall_sc (k_impl_RatOk b2 xs2 ys2 h3 h4) (by repeat (first | exact vws_nil | refine vws_cons ?_ ?_ | exact vw_bb | exact vw_ii | exact vw_ss | exact vw_ints | exact vw_ints0 | exact vw_nn | exact vw_n0 | exact vw_bt | exact vw_qt | exact vw_bnat | exact vw_raw | exact vwl_nil | refine vwl_cons ?_ ?_ | refine vw_agg ?_ | refine vw_fn ?_ | assumption)) ?_
    simp -implicitDefEqProofs (disch := omega) only [↓walk, plain, List.length_map, List.getElem?_map, Option.map_some, Nat.reduceBEq, decT, decF, iteT, iteF, wrap_ok, Int.reduceToNat, Int.reduceLE, Int.reduceLT, Int.reduceAdd, Int.reduceSub, Int.reduceNeg, reduceIte, Nat.reduceEqDiff, Nat.reduceAdd, Nat.reduceSub, Nat.reduceMul, Nat.reduceLeDiff, Nat.reduceShiftRight, Nat.reduceMod, reduceCtorEq]
    exact data_b (by simp)
end Go.Am
