/- base and Count, both. Conditions: none. -/
import Derived.Test.YtikhhipgamllgaaFate
import Derived.Deep.DeepMust
namespace Go.Proofs.Ytikhhipgamllgaa
open Go.RowKit
def bs (t : Bool) : Nat := if t then 3 else 2
theorem bs_le (t : Bool) : bs t ≤ 3 := by cases t <;> decide
theorem bs_ge (t : Bool) : 2 ≤ bs t := by cases t <;> decide
theorem pow_bs {t : Bool} {k : Nat} (hk : k ≤ 32) : bs t ^ k ≤ 1853020188851841 := by
  have h1 : bs t ^ k ≤ 3 ^ k := Nat.pow_le_pow_left (bs_le t) k
  have h2 : 3 ^ k ≤ 3 ^ 32 := Nat.pow_le_pow_right (by decide) hk
  have e : (3 : Nat) ^ 32 = 1853020188851841 := by decide
  omega
def cnt (n : Int) (t : Bool) : Nat := if 0 ≤ n ∧ n ≤ 32 then bs t ^ n.toNat else 0
set_option maxHeartbeats 400000 in
theorem base_any (t : Bool) (w : World) : Calls Try.prog 72 #[.bool t] w fun e w' => e = .returned (.int .u64 (bs t : Nat)) ∧ w = w' := by
  cases t
  · go_enter Try.func72, Try.ntmps72
    go_wp2
    go_ret
    exact ⟨rfl, rfl⟩
  · go_enter Try.func72, Try.ntmps72
    go_wp2
    go_ret
    exact ⟨rfl, rfl⟩
set_option maxHeartbeats 400000 in
theorem rbase_any (t : Bool) (w : World) : Calls Try.prog 73 #[.bool t] w fun e w' => e = .returned (.int .u64 (bs t : Nat)) ∧ w = w' := by
  cases t
  · go_enter Try.func73, Try.ntmps73
    go_wp2
    go_ret
    exact ⟨rfl, rfl⟩
  · go_enter Try.func73, Try.ntmps73
    go_wp2
    go_ret
    exact ⟨rfl, rfl⟩
theorem cnt_step {t : Bool} {k x : Nat} (hx : x = bs t ^ k) (hk : k < 32) : IntKind.u64.wrap ((x : Int) * (bs t : Nat)) = ((bs t ^ (k + 1) : Nat) : Int) := by
  have h := pow_bs (t := t) (k := k + 1) (by omega)
  rw [hx, Nat.pow_succ] at *
  rw [← Int.natCast_mul]
  exact IntWalk.u64_in _ (by omega)
set_option maxHeartbeats 1000000 in
theorem count_any (n : Int) (t : Bool) (w : World) : Calls Try.prog 21 #[.int .i64 n, .bool t] w fun e w' => e = .returned (.int .u64 (cnt n t : Nat)) ∧ w = w' := by
  by_cases h1 : 0 ≤ n
  · by_cases h2 : n ≤ 32
    · obtain ⟨m, rfl⟩ := Int.eq_ofNat_of_zero_le h1
      have HR : Hid (cnt m t = bs t ^ m) := Lib.hid (by unfold cnt; rw [if_pos ⟨h1, h2⟩]; rfl)
      go_enter Try.func21, Try.ntmps21
      go_wp2_with fail
      go_loopw [5, 13] (fun c i wr => ∃ k : Nat, k ≤ m ∧ i = .int .i64 k ∧ (∃ x : Nat, c = .int .u64 x ∧ Hid (x = bs t ^ k)) ∧ wr = w) (fun _ i _ => m - (intOf i).toNat)
      case atStart => exact ⟨0, by omega, rfl, ⟨1, rfl, Lib.hid rfl⟩, rfl⟩
      case round =>
        obtain ⟨k, hk, rfl, ⟨x, rfl, HX⟩, rfl⟩ := hrel
        by_cases hlt : k < m
        · go_wp2_with (go_at_call 72; refine (base_any t _).mono ?_; rintro e w' ⟨rfl, rfl⟩)
          rw [cnt_step HX.out (by omega)]
          exact ⟨⟨k + 1, by omega, by go_num, ⟨_, rfl, Lib.hid rfl⟩, trivial⟩, by simp [intOf]; omega⟩
        · obtain rfl : k = m := by omega
          go_wp2_with fail
          go_ret
          exact ⟨by rw [HR.out, HX.out]; rfl, rfl⟩
    · have HR : Hid (cnt n t = 0) := Lib.hid (by unfold cnt; rw [if_neg (by omega)])
      go_enter Try.func21, Try.ntmps21
      go_wp2
      go_ret
      exact ⟨by rw [HR.out]; rfl, rfl⟩
  · have HR : Hid (cnt n t = 0) := Lib.hid (by unfold cnt; rw [if_neg (by omega)])
    go_enter Try.func21, Try.ntmps21
    go_wp2
    go_ret
    exact ⟨by rw [HR.out]; rfl, rfl⟩
set_option maxHeartbeats 1000000 in
theorem rcount_any (n : Int) (t : Bool) (w : World) : Calls Try.prog 22 #[.int .i64 n, .bool t] w fun e w' => e = .returned (.int .u64 (cnt n t : Nat)) ∧ w = w' := by
  by_cases h1 : 0 ≤ n
  · by_cases h2 : n ≤ 32
    · obtain ⟨m, rfl⟩ := Int.eq_ofNat_of_zero_le h1
      have HR : Hid (cnt m t = bs t ^ m) := Lib.hid (by unfold cnt; rw [if_pos ⟨h1, h2⟩]; rfl)
      go_enter Try.func22, Try.ntmps22
      go_wp2_with fail
      go_loopw [5, 6] (fun c i wr => ∃ k : Nat, k ≤ m ∧ i = .int .i64 k ∧ (∃ x : Nat, c = .int .u64 x ∧ Hid (x = bs t ^ k)) ∧ wr = w) (fun _ i _ => m - (intOf i).toNat)
      case atStart => exact ⟨0, by omega, rfl, ⟨1, rfl, Lib.hid rfl⟩, rfl⟩
      case round =>
        obtain ⟨k, hk, rfl, ⟨x, rfl, HX⟩, rfl⟩ := hrel
        by_cases hlt : k < m
        · go_wp2_with (go_at_call 73; refine (rbase_any t _).mono ?_; rintro e w' ⟨rfl, rfl⟩)
          rw [cnt_step HX.out (by omega)]
          exact ⟨⟨k + 1, by omega, by go_num, ⟨_, rfl, Lib.hid rfl⟩, trivial⟩, by simp [intOf]; omega⟩
        · obtain rfl : k = m := by omega
          go_wp2_with fail
          go_ret
          exact ⟨by rw [HR.out, HX.out]; rfl, rfl⟩
    · have HR : Hid (cnt n t = 0) := Lib.hid (by unfold cnt; rw [if_neg (by omega)])
      go_enter Try.func22, Try.ntmps22
      go_wp2
      go_ret
      exact ⟨by rw [HR.out]; rfl, rfl⟩
  · have HR : Hid (cnt n t = 0) := Lib.hid (by unfold cnt; rw [if_neg (by omega)])
    go_enter Try.func22, Try.ntmps22
    go_wp2
    go_ret
    exact ⟨by rw [HR.out]; rfl, rfl⟩
end Go.Proofs.Ytikhhipgamllgaa
