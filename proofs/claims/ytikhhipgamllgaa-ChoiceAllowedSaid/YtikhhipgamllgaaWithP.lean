/- choice.With. Conditions: numbers within their kinds. -/
import Derived.Test.YtikhhipgamllgaaFate
import Derived.Deep.DeepMust
namespace Go.Proofs.Ytikhhipgamllgaa
open Go.RowKit
/-- the choice with another fate -/
def withN (c : Nat) (i f : Int) : Nat := if 0 ≤ i ∧ i < 32 ∧ 0 ≤ f ∧ f ≤ 2 then setF c i.toNat f.toNat else c
theorem withN_lt {c : Nat} (hc : c < 18446744073709551616) (i f : Int) : withN c i f < 18446744073709551616 := by
  unfold withN
  split
  · have := setF_lt (c := c) (i := i.toNat) (f := f.toNat) (by omega)
    have e : (4 : Nat) ^ 32 = 18446744073709551616 := by decide
    omega
  · exact hc
theorem ones_bit (k : Nat) : (18446744073709551615 : Nat).testBit k = decide (k < 64) := by
  rw [show (18446744073709551615 : Nat) = 2 ^ 64 - 1 by decide, Nat.testBit_two_pow_sub_one]
theorem andnot_bit (a b k : Nat) (hb : b < 2 ^ 64) : (a &&& (18446744073709551615 - b)).testBit k = (a.testBit k && (decide (k < 64) && !b.testBit k)) := by
  rw [Nat.testBit_and, show (18446744073709551615 : Nat) - b = 2 ^ 64 - (b + 1) by omega, Nat.testBit_two_pow_sub_succ hb]
theorem shl_bit (f n k : Nat) : (f * 2 ^ n).testBit k = (decide (n ≤ k) && f.testBit (k - n)) := by
  rw [← Nat.shiftLeft_eq, Nat.testBit_shiftLeft]
theorem small_shl {f j : Nat} (hf : f ≤ 3) (hj : j < 32) : f * 2 ^ (2 * j) < 18446744073709551616 := by
  have h : 2 ^ (2 * j) ≤ 2 ^ 62 := Nat.pow_le_pow_right (by decide) (by omega)
  have e : (2 : Nat) ^ 62 = 4611686018427387904 := by decide
  rw [e] at h
  have : f * 2 ^ (2 * j) ≤ 3 * 2 ^ (2 * j) := Nat.mul_le_mul_right _ hf
  omega
theorem with_word {c j f : Nat} (hc : c < 18446744073709551616) (hj : j < 32) (hf : f < 3) :
    bits .or .u64 (bits .andNot .u64 (c : Int) (IntKind.u64.wrap (3 * 2 ^ (2 * j)))) (IntKind.u64.wrap ((f : Int) * 2 ^ (2 * j))) = (setF c j f : Nat) := by
  have m3 := small_shl (f := 3) (j := j) (by omega) hj
  have mf := small_shl (f := f) (j := j) (by omega) hj
  have c3 : (3 : Int) * 2 ^ (2 * j) = ((3 * 2 ^ (2 * j) : Nat) : Int) := by simp
  have cf : (f : Int) * 2 ^ (2 * j) = ((f * 2 ^ (2 * j) : Nat) : Int) := by simp
  rw [c3, cf, IntWalk.u64_in _ (by omega), IntWalk.u64_in _ (by omega), u64_andNot_nat _ _ hc m3, u64_or_nat _ _ (Nat.lt_of_le_of_lt Nat.and_le_left hc) mf]
  congr 1
  refine with_bits (by omega) ?_ ?_
  · have e : (4 : Nat) ^ 32 = 2 ^ 64 := by decide
    rw [e]
    have h64 : (18446744073709551616 : Nat) = 2 ^ 64 := by decide
    rw [h64] at hc mf
    exact Nat.or_lt_two_pow (Nat.lt_of_le_of_lt Nat.and_le_left hc) mf
  · intro k hk
    rw [Nat.testBit_or, andnot_bit _ _ _ m3, shl_bit, shl_bit, three_bit]
    simp only [hk, decide_true, Bool.true_and]
    by_cases h1 : 2 * j ≤ k
    · have e : decide (k - 2 * j < 2) = decide (k < 2 * j + 2) := by
        apply decide_eq_decide.2
        omega
      rw [e]
    · simp [h1]
set_option maxHeartbeats 1000000 in
theorem with_any (c : Nat) (i f : Int) (w : World) (hc : c < 18446744073709551616) (hi : -9223372036854775808 ≤ i ∧ i ≤ 9223372036854775807) :
    Calls Try.prog 14 #[.int .u64 c, .int .i64 i, .int .i64 f] w fun e w' => e = .returned (.int .u64 (withN c i f : Nat)) ∧ w = w' := by
  have HC := Lib.hid hc
  clear hc
  by_cases h : hasB i = true
  · have h1 : 0 ≤ i := by simp [hasB] at h; omega
    have h2 : i < 32 := by simp [hasB] at h; omega
    by_cases hf0 : 0 ≤ f
    · by_cases hf2 : f ≤ 2
      · obtain ⟨j, rfl⟩ := Int.eq_ofNat_of_zero_le h1
        obtain ⟨g, rfl⟩ := Int.eq_ofNat_of_zero_le hf0
        have HW : Hid (withN c j g = setF c j g) := Lib.hid (by unfold withN; rw [if_pos (by omega)]; rfl)
        go_enter Try.func14, Try.ntmps14
        go_wp2_with (go_at_call 69; refine (has_any _ _).mono ?_; rintro e w' ⟨rfl, rfl⟩)
        rw [with_word HC.out (by omega) (by omega)]
        go_ret
        exact ⟨by rw [HW.out]; rfl, rfl⟩
      · have HW : Hid (withN c i f = c) := Lib.hid (by unfold withN; rw [if_neg (by omega)])
        go_enter Try.func14, Try.ntmps14
        go_wp2_with (go_at_call 69; refine (has_any _ _).mono ?_; rintro e w' ⟨rfl, rfl⟩)
        go_ret
        exact ⟨by rw [HW.out]; rfl, rfl⟩
    · have HW : Hid (withN c i f = c) := Lib.hid (by unfold withN; rw [if_neg (by omega)])
      go_enter Try.func14, Try.ntmps14
      go_wp2_with (go_at_call 69; refine (has_any _ _).mono ?_; rintro e w' ⟨rfl, rfl⟩)
      go_ret
      exact ⟨by rw [HW.out]; rfl, rfl⟩
  · have h' : hasB i = false := by simpa using h
    have HW : Hid (withN c i f = c) := Lib.hid (by unfold withN; rw [if_neg]; simp [hasB] at h'; omega)
    go_enter Try.func14, Try.ntmps14
    go_wp2_with (go_at_call 69; refine (has_any _ _).mono ?_; rintro e w' ⟨rfl, rfl⟩)
    go_ret
    exact ⟨by rw [HW.out]; rfl, rfl⟩
end Go.Proofs.Ytikhhipgamllgaa
