/- choice.Right. Conditions: numbers within their kinds. -/
import Derived.Test.YtikhhipgamllgaaFate
import Derived.Deep.DeepMust
namespace Go.Proofs.Ytikhhipgamllgaa
open Go.RowKit
def no3 (c : Nat) : Bool := (List.range 32).all fun i => fate c i != 3
theorem no3_iff (c : Nat) : no3 c = true ↔ ∀ i, i < 32 → fate c i ≠ 3 := by
  simp [no3]
theorem low_word {c : Nat} (hc : c < 18446744073709551616) : (bits .and .u64 (bits .and .u64 (c : Int) ((c : Int) / 2)) 6148914691236517205 == 0) = no3 c := by
  have e1 : ((c : Int) / 2) = ((c / 2 : Nat) : Int) := by omega
  rw [e1, u64_and_nat _ _ hc (by omega), show (6148914691236517205 : Int) = ((6148914691236517205 : Nat) : Int) from rfl, u64_and_nat _ _ (Nat.lt_of_le_of_lt Nat.and_le_left hc) (by omega)]
  have h := no_three (c := c) (by have e : (4 : Nat) ^ 32 = 18446744073709551616 := by decide
                                  omega)
  rw [Bool.eq_iff_iff, no3_iff, ← h, beq_iff_eq]
  omega
theorem shr_word (c m : Nat) : (c : Int) / 2 ^ (2 * (m : Int)).toNat = ((c / 4 ^ m : Nat) : Int) := by
  have e1 : (2 * (m : Int)).toNat = 2 * m := by omega
  have e2 : ((2 : Int) ^ (2 * m)) = ((4 ^ m : Nat) : Int) := by rw [Int.pow_mul]; simp
  rw [e1, e2, ← Int.natCast_ediv]
theorem right_full {c m : Nat} (hc : c < 18446744073709551616) (hm : m ≤ 32) (h : m < 32 → c / 4 ^ m = 0) : no3 c = rightB c m := by
  have e : (4 : Nat) ^ 32 = 18446744073709551616 := by decide
  rw [Bool.eq_iff_iff, no3_iff, rightB_iff hm]
  constructor
  · intro h3
    refine ⟨h3, fun i h1 h2 => ?_⟩
    exact (high_zero (by omega)).1 (h (by omega)) i h1 h2
  · exact fun h => h.1
theorem right_high {c m : Nat} (hc : c < 18446744073709551616) (hm : m ≤ 32) (h : c / 4 ^ m ≠ 0) : rightB c m = false := by
  have e : (4 : Nat) ^ 32 = 18446744073709551616 := by decide
  cases hr : rightB c m with
  | false => rfl
  | true => exact absurd ((high_zero (by omega)).2 ((rightB_iff hm).1 hr).2) h
set_option maxHeartbeats 1000000 in
theorem right_any (c : Nat) (n : Int) (w : World) (hc : c < 18446744073709551616) :
    Calls Try.prog 16 #[.int .u64 c, .int .i64 n] w fun e w' => e = .returned (.bool (rightB c n)) ∧ w = w' := by
  have HC := Lib.hid hc
  clear hc
  by_cases h1 : 0 ≤ n
  · by_cases h2 : n ≤ 32
    · obtain ⟨m, rfl⟩ := Int.eq_ofNat_of_zero_le h1
      by_cases h3 : m < 32
      · by_cases hz : c / 4 ^ m = 0
        · have HZ := Lib.hid hz
          clear hz
          have hq : ((c : Int) / 2 ^ (2 * (m : Int)).toNat) = 0 := by rw [shr_word, HZ.out]; rfl
          go_enter Try.func16, Try.ntmps16
          go_wp2
          rw [low_word HC.out, right_full HC.out (by omega) (fun _ => HZ.out)]
          go_ret
          exact ⟨rfl, rfl⟩
        · have HZ := Lib.hid (right_high HC.out (by omega) hz)
          obtain ⟨q, hq0⟩ : ∃ q : Nat, c / 4 ^ m = q + 1 := Nat.exists_eq_succ_of_ne_zero hz
          clear hz
          have hq : ((c : Int) / 2 ^ (2 * (m : Int)).toNat) = (q : Int) + 1 := by rw [shr_word, hq0]; rfl
          have hq2 : ((q : Int) + 1 == 0) = false := by rw [beq_eq_false_iff_ne]; omega
          have hq3 : ((q : Int) + 1 != 0) = true := by rw [bne_iff_ne]; omega
          clear hq0
          go_enter Try.func16, Try.ntmps16
          go_wp2
          go_ret
          exact ⟨by rw [HZ.out]; rfl, rfl⟩
      · obtain rfl : m = 32 := by omega
        go_enter Try.func16, Try.ntmps16
        go_wp2
        rw [low_word HC.out, right_full HC.out (Nat.le_refl 32) (fun h => absurd h (by omega))]
        go_ret
        exact ⟨rfl, rfl⟩
    · have HR : Hid (rightB c n = false) := Lib.hid (by unfold rightB; simp; omega)
      go_enter Try.func16, Try.ntmps16
      go_wp2
      go_ret
      exact ⟨by rw [HR.out]; rfl, rfl⟩
  · have HR : Hid (rightB c n = false) := Lib.hid (by unfold rightB; simp; omega)
    go_enter Try.func16, Try.ntmps16
    go_wp2
    go_ret
    exact ⟨by rw [HR.out]; rfl, rfl⟩
end Go.Proofs.Ytikhhipgamllgaa
