/- TakeInt, both texts. Conditions: at most 2^39 bytes. -/
import Derived.Test.YtnhpkkmjicphgaaTakeAny
import Derived.Test.YtnhpkkmjicphgaaZig
namespace Go.Proofs.Ytnhpkkmjicphgaa
open Go.RowKit
def IntYes (w : World) (n : Int) (t : List UInt8) (e : Ending) (w' : World) : Prop :=
  ∃ A c, e = .returned (.tuple #[.int .i64 n, .slice A t.length c, .bool true]) ∧ t.length ≤ c ∧ Reads w' w'.heap.size 1 A t.length (vb t) ∧ Below w.heap.size w w'
def IntNo (w : World) (e : Ending) (w' : World) : Prop := e = .returned (.tuple #[.int .i64 0, .slice none 0 0, .bool false]) ∧ Below w.heap.size w w'
set_option maxHeartbeats 400000 in
theorem codec_int_yes (A : Option Addr) (k c : Nat) (l t : List UInt8) (n : Nat) (w : World) (hr : Reads w w.heap.size 1 A k (vb l)) (hkc : k ≤ c) (hk : k ≤ 549755813888) (hn : n < 18446744073709551616) (hl : l = enc n ++ t) :
    Calls Try.prog 15 #[.slice A k c] w (IntYes w (zag n) t) := by
  have H := Lib.hid (codec_takes.yes A k c l t n w hr hkc hk hn hl)
  have HN := Lib.hid hn
  clear hn hl hr
  go_enter Try.func15, Try.ntmps15
  go_wp2_with fail
  refine H.out.mono ?_
  rintro e w' ⟨A', c', rfl, hc', hr', hb'⟩
  go_wp2_with fail
  rw [zag_codec HN.out]
  go_ret3
  exact ⟨A', c', rfl, hc', hr', hb'⟩
set_option maxHeartbeats 400000 in
theorem codec_int_no (A : Option Addr) (k c : Nat) (l : List UInt8) (w : World) (hr : Reads w w.heap.size 1 A k (vb l)) (hkc : k ≤ c) (hk : k ≤ 549755813888) (hl : NoDec l) :
    Calls Try.prog 15 #[.slice A k c] w (IntNo w) := by
  have H := Lib.hid (codec_takes.no A k c l w hr hkc hk hl)
  clear hl hr
  go_enter Try.func15, Try.ntmps15
  go_wp2_with fail
  refine H.out.mono ?_
  rintro e w' ⟨rfl, hb'⟩
  go_wp2_with fail
  rw [zag_zero]
  go_ret3
  exact ⟨rfl, hb'⟩
theorem zag_ref_odd {n : Nat} (h : n < 18446744073709551616) (hm : n % 2 = 1) : wrap64 (wrap64 (-wrap64 (IntKind.u64.wrap ((n : Int) / 2))) - 1) = zag n := by
  unfold zag
  rw [if_pos hm, IntKind.wrap_u64]
  unfold wrap64
  omega
theorem zag_ref_even {n : Nat} (h : n < 18446744073709551616) (hm : ¬ n % 2 = 1) : wrap64 (IntKind.u64.wrap ((n : Int) / 2)) = zag n := by
  unfold zag
  rw [if_neg hm, IntKind.wrap_u64]
  unfold wrap64
  omega
set_option maxHeartbeats 400000 in
theorem ref_int_yes (A : Option Addr) (k c : Nat) (l t : List UInt8) (n : Nat) (w : World) (hr : Reads w w.heap.size 1 A k (vb l)) (hkc : k ≤ c) (hk : k ≤ 549755813888) (hn : n < 18446744073709551616) (hl : l = enc n ++ t) :
    Calls Try.prog 16 #[.slice A k c] w (IntYes w (zag n) t) := by
  have H := Lib.hid (ref_takes.yes A k c l t n w hr hkc hk hn hl)
  have HN := Lib.hid hn
  clear hn hl hr
  go_enter Try.func16, Try.ntmps16
  go_wp2_with fail
  refine H.out.mono ?_
  rintro e w' ⟨A', c', rfl, hc', hr', hb'⟩
  by_cases hm : n % 2 = 1
  · have hm2 : (((n : Int) % 2) == 1) = true := by rw [beq_iff_eq]; omega
    have HM := Lib.hid hm; clear hm
    go_wp2_with fail
    rw [zag_ref_odd HN.out HM.out]
    go_ret3
    exact ⟨A', c', rfl, hc', hr', hb'⟩
  · have hm2 : (((n : Int) % 2) == 1) = false := by rw [beq_eq_false_iff_ne]; omega
    have HM := Lib.hid hm; clear hm
    go_wp2_with fail
    rw [zag_ref_even HN.out HM.out]
    go_ret3
    exact ⟨A', c', rfl, hc', hr', hb'⟩
set_option maxHeartbeats 400000 in
theorem ref_int_no (A : Option Addr) (k c : Nat) (l : List UInt8) (w : World) (hr : Reads w w.heap.size 1 A k (vb l)) (hkc : k ≤ c) (hk : k ≤ 549755813888) (hl : NoDec l) :
    Calls Try.prog 16 #[.slice A k c] w (IntNo w) := by
  have H := Lib.hid (ref_takes.no A k c l w hr hkc hk hl)
  clear hl hr
  go_enter Try.func16, Try.ntmps16
  go_wp2_with fail
  refine H.out.mono ?_
  rintro e w' ⟨rfl, hb'⟩
  go_wp2_with fail
  go_ret3
  exact ⟨rfl, hb'⟩
end Go.Proofs.Ytnhpkkmjicphgaa
