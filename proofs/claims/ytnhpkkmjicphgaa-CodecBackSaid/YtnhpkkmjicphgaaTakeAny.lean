/- TakeUint of any bytes, both texts: two contracts each, for bytes that begin with a number and for those that do not. Conditions: at most 2^39 bytes. -/
import Derived.Test.YtnhpkkmjicphgaaRefTakeW
namespace Go.Proofs.Ytnhpkkmjicphgaa
open Go.RowKit
theorem nodec_nil : NoDec [] := nodec_end (by intro b hb; cases hb)
set_option maxRecDepth 100000 in
set_option maxHeartbeats 400000 in
theorem codec_take_nil (A : Option Addr) (c : Nat) (w : World) : Calls Try.prog 13 #[.slice A 0 c] w (TakeNo w) := by
  go_enter Try.func13, Try.ntmps13
  go_wp2_with fail
  go_step3
  go_wp2_with fail
  go_step3
  go_wp2_with fail
  go_loopw [5, 6, 12] (fun n at_ i wr => n = .int .u64 0 ∧ at_ = .int .u64 0 ∧ i = .int .i64 0 ∧ wr = w) (fun _ _ _ _ => 0)
  case atStart => exact ⟨rfl, rfl, rfl, rfl⟩
  case round =>
    obtain ⟨rfl, rfl, rfl, rfl⟩ := hrel
    go_wp2_with fail
    try rw [Exit.noGoto_ret]
    go_ret3
    exact ⟨rfl, Below.refl _ _⟩
set_option maxRecDepth 100000 in
set_option maxHeartbeats 400000 in
theorem ref_take_nil (A : Option Addr) (c : Nat) (w : World) : Calls Try.prog 14 #[.slice A 0 c] w (TakeNo w) := by
  go_enter Try.func14, Try.ntmps14
  go_wp2_with fail
  go_loopw [5, 6] (fun n i wr => n = .int .u64 0 ∧ i = .int .i64 0 ∧ wr = w) (fun _ _ _ => 0)
  case atStart => exact ⟨rfl, rfl, rfl⟩
  case round =>
    obtain ⟨rfl, rfl, rfl⟩ := hrel
    go_wp2_with fail
    go_ret3
    exact ⟨rfl, Below.refl _ _⟩
/-- what the walks give, for any slice -/
def Takes (f : Nat) : Prop := ∀ (A : Option Addr) (k c : Nat) (l : List UInt8) (w : World), Reads w w.heap.size 1 A k (vb l) → k ≤ c → k ≤ 549755813888 → Calls Try.prog f #[.slice A k c] w (TakePost w l)
theorem codec_takes : Takes 13 := by
  intro A k c l w hr hkc hk
  have hl : l.length = k := by simpa [vb_len] using hr.1
  rcases Nat.eq_zero_or_pos k with rfl | hk0
  · have hl0 : l = [] := List.eq_nil_of_length_eq_zero hl
    subst hl0
    exact (codec_take_nil A c w).mono fun e w' h => .inr ⟨nodec_nil, h⟩
  · obtain ⟨b, off, rfl, _, hc⟩ := reads_form hr hk0
    exact codec_take_some b off k c l w hl.symm hr hc hkc hk
theorem ref_takes : Takes 14 := by
  intro A k c l w hr hkc hk
  have hl : l.length = k := by simpa [vb_len] using hr.1
  rcases Nat.eq_zero_or_pos k with rfl | hk0
  · have hl0 : l = [] := List.eq_nil_of_length_eq_zero hl
    subst hl0
    exact (ref_take_nil A c w).mono fun e w' h => .inr ⟨nodec_nil, h⟩
  · obtain ⟨b, off, rfl, _, hc⟩ := reads_form hr hk0
    exact ref_take_some b off k c l w hl.symm hr hc hkc hk
theorem Takes.yes {f : Nat} (h : Takes f) (A : Option Addr) (k c : Nat) (l t : List UInt8) (n : Nat) (w : World) (hr : Reads w w.heap.size 1 A k (vb l)) (hkc : k ≤ c) (hk : k ≤ 549755813888) (hn : n < 18446744073709551616) (hl : l = enc n ++ t) :
    Calls Try.prog f #[.slice A k c] w (TakeYes w n t) :=
  (h A k c l w hr hkc hk).mono fun e w' hp => by
    rcases hp with ⟨n', t', _, hl', hy⟩ | ⟨hno, _⟩
    · obtain ⟨rfl, rfl⟩ := enc_unique (hl'.symm.trans hl)
      exact hy
    · exact absurd hl (hno n t hn)
theorem Takes.no {f : Nat} (h : Takes f) (A : Option Addr) (k c : Nat) (l : List UInt8) (w : World) (hr : Reads w w.heap.size 1 A k (vb l)) (hkc : k ≤ c) (hk : k ≤ 549755813888) (hl : NoDec l) :
    Calls Try.prog f #[.slice A k c] w (TakeNo w) :=
  (h A k c l w hr hkc hk).mono fun e w' hp => by
    rcases hp with ⟨n', t', hn', hl', hy⟩ | ⟨_, hn⟩
    · exact absurd hl' (hl n' t' hn')
    · exact hn
end Go.Proofs.Ytnhpkkmjicphgaa
