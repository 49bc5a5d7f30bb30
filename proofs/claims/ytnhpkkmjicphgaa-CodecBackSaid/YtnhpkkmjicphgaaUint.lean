/- codec.Uint lays the number's bytes behind the given ones. Conditions: at most 2^39 bytes. -/
import Derived.Test.YtnhpkkmjicphgaaBits
namespace Go.Proofs.Ytnhpkkmjicphgaa
open Go.RowKit
/-- behind an append of one byte laid in a new block: what lay below stays. -/
theorem below_app {B : Nat} {w wr w2 : World} {v : Value} {o : Obj} (hb : Below B w wr) (hB : B ≤ wr.heap.size) (hv : ∀ k, v.ownBlock = some k → B ≤ k) (hg : (wr.alloc o).grownBy w2 v.ownBlock) : Below B w w2 :=
  (hb.alloc hB o).grown hg (by simp; omega) hv
def UintPost (B e : Nat) (w : World) (k : Nat) (l : List UInt8) (en : Ending) (w' : World) : Prop :=
  ∃ g cap, en = .returned (.slice (some ⟨g, 0, none⟩) k cap) ∧ w'.ownsRow B e 1 (.slice (some ⟨g, 0, none⟩) k cap) k (vb l) ∧ Below B w w'
theorem snoc_len {a b c : List UInt8} (h : a ++ b = c) (hb : 0 < b.length) (hc : c.length ≤ 10) : a.length ≤ 9 := by
  have := congrArg List.length h
  simp at this
  omega
set_option maxRecDepth 100000 in
set_option maxHeartbeats 400000 in
theorem codec_uint (A : Option Addr) (k c : Nat) (l : List UInt8) (n : Nat) (w : World) (h : Reads w w.heap.size 1 A k (vb l)) (hk : k ≤ 549755813888) (hn : n < 18446744073709551616) :
    Calls Try.prog 7 #[.slice A k c, .int .u64 n] w (UintPost w.heap.size 5 w (k + (enc n).length) (l ++ enc n)) := by
  obtain ⟨i0, hi0, hz0, hz1, hz2⟩ := info_parts info5
  have hlen := enc_len10 hn
  have HN := Lib.hid hn; clear hn
  go_enter Try.func7, Try.ntmps7
  go_wp2_with (go_at_call 19; refine (slices_clone A k c l _ h (by omega)).mono ?_; rintro e w1 ⟨v1, rfl, hown1, hb1⟩)
  go_loopw [1, 5] (fun m v wr => ∃ (q : Nat) (pre : List UInt8), m = .int .u64 q ∧ Hid (pre ++ enc q = enc n) ∧ pre.length ≤ 9 ∧ wr.ownsRow w.heap.size 5 1 v (k + pre.length) (vb (l ++ pre)) ∧ Below w.heap.size w wr) (fun m _ _ => (intOf m).toNat)
  case atStart => exact ⟨n, [], rfl, Lib.hid rfl, by simp, by simpa using hown1, hb1⟩
  case round =>
    obtain ⟨q, pre, rfl, hpre, hpl, hown, hb⟩ := hrel
    have hB := hb.size
    by_cases hq : q < 128
    · go_wp2_with (at_builtin; refine wpList_append_lies _ rfl (.tmp 18) (.tmp 21) 22 rfl w.heap.size 5 i0 (.int .u8 0) 1 1 Try.underlying22 hi0 hz0 hz1 hz2 rfl (by decide) u5 _ _ rfl (hown.alloc _) ⟨wr.heap.size, 0, none⟩ 1 1 [_] rfl rfl (cell_one_new _ _ _) (by simp [Value.oneCell']) (by omega) (by unfold maxLen; omega) (by omega) (by have := hb.size; simp; omega) (wr.heap.size + 1) (by simp) ?_; intro g cap w2 hown2 hg2 hat2 hlt2)
      go_ret
      have e1 : (q : Int) = ((UInt8.ofNat q).toNat : Int) := by
        rw [UInt8.toNat_ofNat']; omega
      have hpre' := hpre.out
      rw [enc_small hq] at hpre'
      have e2 : k + (enc n).length = k + pre.length + 1 := by rw [← hpre']; simp; omega
      refine ⟨g, cap, by rw [e2]; rfl, ?_, below_app hb hB (fun j hj => (hown.lt j hj).1) hg2⟩
      rw [e2, ← hpre', ← List.append_assoc, vb_app]
      rw [e1] at hown2
      exact hown2
    · go_wp2_with (at_builtin; refine wpList_append_lies _ rfl (.tmp 12) (.tmp 16) 22 rfl w.heap.size 5 i0 (.int .u8 0) 1 1 Try.underlying22 hi0 hz0 hz1 hz2 rfl (by decide) u5 _ _ rfl (hown.alloc _) ⟨wr.heap.size, 0, none⟩ 1 1 [_] rfl rfl (cell_one_new _ _ _) (by simp [Value.oneCell']) (by omega) (by unfold maxLen; omega) (by omega) (by have := hb.size; simp; omega) (wr.heap.size + 1) (by simp) ?_; intro g cap w2 hown2 hg2 hat2 hlt2)
      have hpre' := hpre.out
      rw [enc_big (by omega)] at hpre'
      have hp2 : (pre ++ [UInt8.ofNat (q % 128 + 128)]) ++ enc (q / 128) = enc n := by simpa using hpre'
      refine ⟨⟨q / 128, pre ++ [UInt8.ofNat (q % 128 + 128)], by go_num, Lib.hid hp2, snoc_len hp2 (enc_pos _) hlen, ?_, below_app hb hB (fun j hj => (hown.lt j hj).1) hg2⟩, by simp [intOf]; omega⟩
      rw [or128] at hown2
      rw [← List.append_assoc, vb_app, List.length_append, ← Nat.add_assoc]
      exact hown2
end Go.Proofs.Ytnhpkkmjicphgaa
