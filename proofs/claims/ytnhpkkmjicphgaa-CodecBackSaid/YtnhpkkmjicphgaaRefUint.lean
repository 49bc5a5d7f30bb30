/- The reference's Uint lays the same bytes. Conditions: at most 2^39 bytes. -/
import Derived.Test.YtnhpkkmjicphgaaUint
namespace Go.Proofs.Ytnhpkkmjicphgaa
open Go.RowKit
theorem add128 (q : Nat) : ((q : Int) % 128 + 128) = ((UInt8.ofNat (q % 128 + 128)).toNat : Int) := by
  have : (UInt8.ofNat (q % 128 + 128)).toNat = q % 128 + 128 := by
    rw [UInt8.toNat_ofNat']; omega
  rw [this]; omega
theorem own_head {g j n c : Nat} (h : Value.ownBlock (.slice (some ⟨g, 0, none⟩) n c) = some j) : g ≤ j := by
  have h' : g = j := by injection h
  exact Nat.le_of_eq h'
theorem own_nil (w : World) (B : Nat) : w.ownsRow B 5 1 (.slice none 0 0) 0 [] := World.ownsRow_nil _ _ _ _
set_option maxRecDepth 100000 in
set_option maxHeartbeats 400000 in
theorem ref_uint (A : Option Addr) (k c : Nat) (l : List UInt8) (n : Nat) (w : World) (h : Reads w w.heap.size 1 A k (vb l)) (hk : k ≤ 549755813888) (hn : n < 18446744073709551616) :
    Calls Try.prog 8 #[.slice A k c, .int .u64 n] w (UintPost w.heap.size 5 w (k + (enc n).length) (l ++ enc n)) := by
  obtain ⟨i0, hi0, hz0, hz1, hz2⟩ := info_parts info5
  have hlen := enc_len10 hn
  have HN := Lib.hid hn; clear hn
  have hown0 := ownsRow_empty w w.heap.size (Nat.le_refl _)
  go_enter Try.func8, Try.ntmps8
  go_wp2_with (at_builtin; refine wpList_append_any _ rfl (.tmp 6) (.tmp 7) 22 rfl w.heap.size 5 i0 (.int .u8 0) 1 1 Try.underlying22 hi0 hz0 hz1 hz2 rfl (by decide) (.slice (some ⟨w.heap.size, 0, none⟩) 0 0) 0 [] rfl hown0 w.heap.size A k c (vb l) rfl (h.alloc (Nat.le_refl _) _) (vb_one l) (by unfold maxLen; omega) (by omega) (by simp) ?_; intro v1 w1 hown1 hg1 hat1)
  have hb1 : Below w.heap.size w w1 := below_app (Below.refl _ w) (Nat.le_refl _) (fun j hj => own_head hj) hg1
  have hown1' : w1.ownsRow w.heap.size 5 1 v1 k (vb l) := by simpa using hown1
  clear hown1 hown0 hg1 hat1
  go_loopw [1, 5] (fun m v wr => ∃ (q : Nat) (pre : List UInt8), m = .int .u64 q ∧ Hid (q < 18446744073709551616) ∧ Hid (pre ++ enc q = enc n) ∧ pre.length ≤ 9 ∧ wr.ownsRow w.heap.size 5 1 v (k + pre.length) (vb (l ++ pre)) ∧ Below w.heap.size w wr) (fun m _ _ => (intOf m).toNat)
  case atStart => exact ⟨n, [], rfl, HN, Lib.hid rfl, by simp, by simpa using hown1', hb1⟩
  case round =>
    obtain ⟨q, pre, rfl, HQ, hpre, hpl, hown, hb⟩ := hrel
    have hB := hb.size
    by_cases hq : q < 128
    · go_wp2_with (at_builtin; refine wpList_append_lies _ rfl (.tmp 20) (.tmp 23) 22 rfl w.heap.size 5 i0 (.int .u8 0) 1 1 Try.underlying22 hi0 hz0 hz1 hz2 rfl (by decide) u5 _ _ rfl (hown.alloc _) ⟨wr.heap.size, 0, none⟩ 1 1 [_] rfl rfl (cell_one_new _ _ _) (by simp [Value.oneCell']) (by omega) (by unfold maxLen; omega) (by omega) (by have := hb.size; simp; omega) (wr.heap.size + 1) (by simp) ?_; intro g cap w2 hown2 hg2 hat2 hlt2)
      go_ret
      have e1 : (q : Int) = ((UInt8.ofNat q).toNat : Int) := by
        rw [UInt8.toNat_ofNat']; omega
      have hpre' := hpre.out
      rw [enc_small hq] at hpre'
      have e2 : k + (enc n).length = k + pre.length + 1 := by rw [← hpre']; simp; omega
      refine ⟨g, cap, by rw [e2]; rfl, ?_, below_app hb hB (fun j hj => (hown.lt j hj).1) hg2⟩
      rw [e2, ← hpre', ← List.append_assoc, vb_app]
      rw [e1] at hown2
      exact hown2
    · go_wp2_with (at_builtin; refine wpList_append_lies _ rfl (.tmp 11) (.tmp 16) 22 rfl w.heap.size 5 i0 (.int .u8 0) 1 1 Try.underlying22 hi0 hz0 hz1 hz2 rfl (by decide) u5 _ _ rfl (hown.alloc _) ⟨wr.heap.size, 0, none⟩ 1 1 [_] rfl rfl (cell_one_new _ _ _) (by simp [Value.oneCell']) (by omega) (by unfold maxLen; omega) (by omega) (by have := hb.size; simp; omega) (wr.heap.size + 1) (by simp) ?_; intro g cap w2 hown2 hg2 hat2 hlt2)
      have hpre' := hpre.out
      rw [enc_big (by omega)] at hpre'
      have hp2 : (pre ++ [UInt8.ofNat (q % 128 + 128)]) ++ enc (q / 128) = enc n := by simpa using hpre'
      have hq2 := HQ.out
      rw [IntWalk.u64_in _ (by omega)]
      refine ⟨⟨q / 128, pre ++ [UInt8.ofNat (q % 128 + 128)], by go_num, Lib.hid (by omega), Lib.hid hp2, snoc_len hp2 (enc_pos _) hlen, ?_, below_app hb hB (fun j hj => (hown.lt j hj).1) hg2⟩, by simp [intOf]; omega⟩
      rw [add128] at hown2
      rw [← List.append_assoc, vb_app, List.length_append, ← Nat.add_assoc]
      exact hown2
end Go.Proofs.Ytnhpkkmjicphgaa
