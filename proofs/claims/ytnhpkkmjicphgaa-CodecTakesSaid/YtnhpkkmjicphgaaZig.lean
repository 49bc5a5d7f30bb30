/- The numbers by which signed numbers are laid. Conditions: in each theorem. -/
import Derived.Test.YtnhpkkmjicphgaaBits
import Derived.Laws.BitsAllLaws
namespace Go.Proofs.Ytnhpkkmjicphgaa
open Go.RowKit
def zig (n : Int) : Nat := if n < 0 then (-n - 1).toNat * 2 + 1 else n.toNat * 2
def I64 (n : Int) : Prop := -9223372036854775808 ≤ n ∧ n ≤ 9223372036854775807
theorem i64_of {n : Int} (h : (Lit.int .i64 n).wf = true) : I64 n := by
  have := h
  simp [Lit.wf, IntKind.min, IntKind.max, IntKind.signed, IntKind.bits] at this
  exact this
theorem zig_lt {n : Int} (h : I64 n) : zig n < 18446744073709551616 := by
  obtain ⟨h1, h2⟩ := h
  unfold zig
  split <;> omega
theorem xor_ones (a : Nat) (h : a < 18446744073709551616) : a ^^^ 18446744073709551615 = 18446744073709551615 - a := by
  have e : (BitVec.ofNat 64 a ^^^ BitVec.allOnes 64).toNat = 18446744073709551615 - a := by
    rw [BitVec.xor_allOnes, BitVec.toNat_not, BitVec.toNat_ofNat, Nat.mod_eq_of_lt (by omega)]
  rw [BitVec.toNat_xor, BitVec.toNat_ofNat, Nat.mod_eq_of_lt (by omega), BitVec.toNat_allOnes] at e
  exact e
theorem zig_codec {n : Int} (h : I64 n) :
    bits .xor .u64 (IntKind.u64.wrap (wrap64 (n * 2))) (IntKind.u64.wrap (n / 9223372036854775808)) = (zig n : Int) := by
  obtain ⟨h1, h2⟩ := h
  by_cases hn : n < 0
  · have e1 : IntKind.u64.wrap (wrap64 (n * 2)) = ((n * 2 + 18446744073709551616).toNat : Int) := by
      rw [IntKind.wrap_u64]; unfold wrap64; omega
    have e2 : IntKind.u64.wrap (n / 9223372036854775808) = ((18446744073709551615 : Nat) : Int) := by
      rw [IntKind.wrap_u64]; omega
    rw [e1, e2, u64_xor_nat _ _ (by omega) (by omega), xor_ones _ (by omega)]
    unfold zig
    rw [if_pos hn]
    omega
  · have e1 : IntKind.u64.wrap (wrap64 (n * 2)) = ((n * 2).toNat : Int) := by
      rw [IntKind.wrap_u64]; unfold wrap64; omega
    have e2 : IntKind.u64.wrap (n / 9223372036854775808) = ((0 : Nat) : Int) := by
      rw [IntKind.wrap_u64]; omega
    rw [e1, e2, u64_xor_nat _ _ (by omega) (by omega), Nat.xor_zero]
    unfold zig
    rw [if_neg hn]
    omega
theorem zig_ref_neg {n : Int} (h : I64 n) (hn : n < 0) :
    IntKind.u64.wrap (IntKind.u64.wrap (2 * IntKind.u64.wrap (wrap64 (-wrap64 (n + 1)))) + 1) = (zig n : Int) := by
  obtain ⟨h1, h2⟩ := h
  unfold zig
  rw [if_pos hn]
  simp only [IntKind.wrap_u64]
  unfold wrap64
  omega
theorem zig_ref_pos {n : Int} (h : I64 n) (hn : ¬ n < 0) : IntKind.u64.wrap (2 * IntKind.u64.wrap n) = (zig n : Int) := by
  obtain ⟨h1, h2⟩ := h
  unfold zig
  rw [if_neg hn]
  simp only [IntKind.wrap_u64]
  omega
/-- back again -/
def zag (m : Nat) : Int := if m % 2 = 1 then -((m / 2 : Nat) : Int) - 1 else ((m / 2 : Nat) : Int)
theorem zag_zig (n : Int) : zag (zig n) = n := by
  unfold zag zig
  by_cases hn : n < 0
  · rw [if_pos hn, if_pos (by omega)]; omega
  · rw [if_neg hn, if_neg (by omega)]; omega
theorem zig_zag (m : Nat) : zig (zag m) = m := by
  unfold zag zig
  by_cases hm : m % 2 = 1
  · rw [if_pos hm, if_pos (by omega)]; omega
  · rw [if_neg hm, if_neg (by omega)]; omega
theorem and_one {n : Nat} (h : n < 18446744073709551616) : bits .and .u64 (n : Int) 1 = ((n % 2 : Nat) : Int) := by
  have e := u64_and_nat n 1 h (by omega)
  rw [Nat.and_one_is_mod] at e
  exact e
theorem ofInt_nat (a : Nat) (ha : a < 9223372036854775808) : (BitVec.ofInt 64 (a : Int)).toNat = a := by
  rw [BitVec.ofInt_natCast, BitVec.toNat_ofNat]; exact Nat.mod_eq_of_lt (by omega)
theorem xor_neg_one (a : Nat) (ha : a < 9223372036854775808) : bits .xor .i64 (a : Int) (-1) = -(a : Int) - 1 := by
  show IntKind.i64.wrap ((BitVec.ofInt 64 (a : Int) ^^^ BitVec.ofInt 64 (-1)).toNat : Int) = _
  have e : BitVec.ofInt 64 (-1) = BitVec.allOnes 64 := by decide
  rw [e, BitVec.xor_allOnes, BitVec.toNat_not, ofInt_nat a ha, IntKind.wrap_i64]
  omega
theorem xor_zero_i64 (a : Nat) (ha : a < 9223372036854775808) : bits .xor .i64 (a : Int) 0 = (a : Int) := by
  show IntKind.i64.wrap ((BitVec.ofInt 64 (a : Int) ^^^ BitVec.ofInt 64 0).toNat : Int) = _
  have e : BitVec.ofInt 64 0 = 0#64 := by decide
  rw [e, BitVec.xor_zero, ofInt_nat a ha, IntKind.wrap_i64]
  omega
theorem zag_codec {n : Nat} (h : n < 18446744073709551616) :
    bits .xor .i64 (wrap64 ((n : Int) / 2)) (wrap64 (-wrap64 (bits .and .u64 (n : Int) 1))) = zag n := by
  have e1 : wrap64 ((n : Int) / 2) = ((n / 2 : Nat) : Int) := by unfold wrap64; omega
  rw [and_one h, e1]
  unfold zag
  by_cases hm : n % 2 = 1
  · rw [if_pos hm, hm]
    have e2 : wrap64 (-wrap64 ((1 : Nat) : Int)) = -1 := by unfold wrap64; decide
    rw [e2, xor_neg_one _ (by omega)]
  · rw [if_neg hm]
    have hm0 : n % 2 = 0 := by omega
    rw [hm0]
    have e2 : wrap64 (-wrap64 ((0 : Nat) : Int)) = 0 := by unfold wrap64; decide
    rw [e2, xor_zero_i64 _ (by omega)]
theorem zag_zero : bits .xor .i64 0 (wrap64 (-wrap64 (bits .and .u64 0 1))) = 0 := by
  have h := zag_codec (n := 0) (by omega)
  have e : wrap64 (((0 : Nat) : Int) / 2) = 0 := by unfold wrap64; decide
  rw [e] at h
  exact h
end Go.Proofs.Ytnhpkkmjicphgaa
