/- The plain law of the encoding: variable-length numbers as bytes. Conditions: none. -/
namespace Go.Proofs.Ytnhpkkmjicphgaa
/-- the bytes of a number -/
def enc (n : Nat) : List UInt8 := if n < 128 then [UInt8.ofNat n] else UInt8.ofNat (n % 128 + 128) :: enc (n / 128)
  termination_by n
  decreasing_by omega
theorem enc_small {n : Nat} (h : n < 128) : enc n = [UInt8.ofNat n] := by rw [enc, if_pos h]
theorem enc_big {n : Nat} (h : 128 ≤ n) : enc n = UInt8.ofNat (n % 128 + 128) :: enc (n / 128) := by rw [enc, if_neg (by omega)]
theorem enc_pos (n : Nat) : 0 < (enc n).length := by
  rcases Nat.lt_or_ge n 128 with h | h
  · simp [enc_small h]
  · simp [enc_big h]
theorem enc_len (k : Nat) : ∀ n : Nat, n < 128 ^ (k + 1) → (enc n).length ≤ k + 1 := by
  induction k with
  | zero => intro n h; simp [enc_small (show n < 128 by omega)]
  | succ k ih =>
    intro n h
    rcases Nat.lt_or_ge n 128 with h1 | h1
    · simp [enc_small h1]
    · rw [enc_big h1]
      have := ih (n / 128) (by rw [Nat.pow_succ] at h; omega)
      simp
      omega
theorem enc_len10 {n : Nat} (h : n < 18446744073709551616) : (enc n).length ≤ 10 := enc_len 9 n (by omega)
end Go.Proofs.Ytnhpkkmjicphgaa
