/- choice.Nth and the reference's. Conditions: a number within its kind. -/
import Derived.Test.YtikhhipgamllgaaOrderP
import Derived.Test.YtikhhipgamllgaaCount
import Derived.Test.YtikhhipgamllgaaOf
namespace Go.Proofs.Ytikhhipgamllgaa
open Go.RowKit
def nthN (k : Nat) (n : Int) (t : Bool) : Nat := if k < cnt n t then nthS (bs t) k n.toNat else 0
theorem pow64 {n : Nat} (hn : n ≤ 32) : 4 ^ n ≤ 18446744073709551616 := by
  have e : (4 : Nat) ^ 32 = 18446744073709551616 := by decide
  have : 4 ^ n ≤ 4 ^ 32 := Nat.pow_le_pow_right (by decide) hn
  omega
theorem nth_step {b k j x y : Nat} (hb0 : 0 < b) (hb4 : b ≤ 4) (hj : j < 32) (hx : x = nthS b k j) (hy : y = k / b ^ j) :
    bits .or .u64 (x : Int) (IntKind.u64.wrap (((y : Int) % (b : Int)) * 2 ^ (2 * j))) = ((nthS b k (j + 1) : Nat) : Int) := by
  have hx4 : x < 4 ^ j := by rw [hx]; exact nthS_lt hb0 hb4 j
  have hd : y % b < b := Nat.mod_lt _ hb0
  have hp := pow64 (n := j + 1) (by omega)
  rw [Nat.pow_succ] at hp
  have e2 : (2 : Nat) ^ (2 * j) = 4 ^ j := by rw [Nat.pow_mul]
  have hm : (y % b) * 4 ^ j ≤ 3 * 4 ^ j := Nat.mul_le_mul_right _ (by omega)
  have c1 : ((y : Int) % (b : Int)) * 2 ^ (2 * j) = (((y % b) * 4 ^ j : Nat) : Int) := by
    rw [← e2]; simp
  rw [c1, IntWalk.u64_in _ (by omega), u64_or_nat _ _ (by omega) (by omega)]
  congr 1
  rw [Nat.or_comm, nat_join (2 * j) _ _ (by rw [e2]; exact Nat.mul_mod_left _ _) (by rw [e2]; exact hx4), nthS, hx, hy]
  omega
set_option maxHeartbeats 1000000 in
theorem nth_any (k : Nat) (n : Int) (t : Bool) (w : World) (hk : k < 18446744073709551616) : Calls Try.prog 23 #[.int .u64 k, .int .i64 n, .bool t] w fun o w' => o = .returned (.int .u64 (nthN k n t : Nat)) ∧ w = w' := by
  have HK := Lib.hid hk
  clear hk
  by_cases h : k < cnt n t
  · have hn : 0 ≤ n ∧ n ≤ 32 := by
      unfold cnt at h
      by_cases h1 : 0 ≤ n ∧ n ≤ 32
      · exact h1
      · rw [if_neg h1] at h; omega
    obtain ⟨m, rfl⟩ := Int.eq_ofNat_of_zero_le hn.1
    have HR : Hid (nthN k m t = nthS (bs t) k m) := Lib.hid (by unfold nthN; rw [if_pos h]; rfl)
    have hm : m ≤ 32 := by omega
    obtain ⟨q, hq⟩ : ∃ q, q = cnt m t := ⟨_, rfl⟩
    obtain ⟨b, hb⟩ : ∃ b, b = bs t := ⟨_, rfl⟩
    have hb2 : 0 < b := by have := bs_ge t; omega
    have hb4 : b ≤ 4 := by have := bs_le t; omega
    have hkq : ¬ q ≤ k := by omega
    have HB0 := Lib.hid hb2
    have HB4 := Lib.hid hb4
    have HQ := Lib.hid hq
    have HBS := Lib.hid hb
    clear h hn hq hb hb4
    go_enter Try.func23, Try.ntmps23
    go_wp2_with (go_at_call 21; refine (count_any m t _).mono ?_; rintro o w' ⟨rfl, rfl⟩; rw [← HQ.out])
    go_loopw [0, 7, 15] (fun y c i wr => ∃ j : Nat, j ≤ m ∧ i = .int .i64 j ∧ (∃ x : Nat, c = .int .u64 x ∧ Hid (x = nthS b k j)) ∧ (∃ z : Nat, y = .int .u64 z ∧ Hid (z = k / b ^ j)) ∧ wr = w) (fun _ _ i _ => m - (intOf i).toNat)
    case atStart => exact ⟨0, by omega, rfl, ⟨0, rfl, Lib.hid rfl⟩, ⟨k, rfl, Lib.hid (by simp)⟩, rfl⟩
    case round =>
      obtain ⟨j, hj, rfl, ⟨x, rfl, HX⟩, ⟨z, rfl, HZ⟩, rfl⟩ := hrel
      by_cases hlt : j < m
      · go_wp2_with (go_at_call 72; refine (base_any t _).mono ?_; rintro o w' ⟨rfl, rfl⟩; rw [← HBS.out])
        have hz64 : z / b < 18446744073709551616 := by
          have h1 := HZ.out
          have h2 := HK.out
          have h3 := Nat.div_le_self k (b ^ j)
          have h4 := Nat.div_le_self z b
          omega
        try clear hb2
        obtain ⟨y, hy⟩ : ∃ y, y = z / b := ⟨_, rfl⟩
        have ey : ((z : Int) / (b : Int)) = (y : Int) := by rw [hy, Int.natCast_ediv]
        rw [← hy] at hz64
        rw [nth_step HB0.out HB4.out (by omega) HX.out HZ.out, ey, IntWalk.u64_in (y : Int) (by omega)]
        exact ⟨⟨j + 1, by omega, by go_num, ⟨_, rfl, Lib.hid rfl⟩, ⟨_, rfl, Lib.hid (by rw [hy, HZ.out, Nat.div_div_eq_div_mul, Nat.pow_succ])⟩, trivial⟩, by simp [intOf]; omega⟩
      · obtain rfl : j = m := by omega
        go_wp2_with fail
        go_ret
        exact ⟨by rw [HR.out, HX.out, HBS.out]; rfl, rfl⟩
  · have HR : Hid (nthN k n t = 0) := Lib.hid (by unfold nthN; rw [if_neg h])
    obtain ⟨q, hq⟩ : ∃ q, q = cnt n t := ⟨_, rfl⟩
    have hkq : q ≤ k := by omega
    have HQ := Lib.hid hq
    clear h hq
    go_enter Try.func23, Try.ntmps23
    go_wp2_with (go_at_call 21; refine (count_any n t _).mono ?_; rintro o w' ⟨rfl, rfl⟩; rw [← HQ.out])
    go_ret
    exact ⟨by rw [HR.out]; rfl, rfl⟩
end Go.Proofs.Ytikhhipgamllgaa
