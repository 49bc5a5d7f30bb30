/- Int lays the signed number's bytes. Conditions: at most 2^39 bytes. -/
import Derived.Test.YtnhpkkmjicphgaaRefUint
import Derived.Test.YtnhpkkmjicphgaaZig
namespace Go.Proofs.Ytnhpkkmjicphgaa
open Go.RowKit
set_option maxHeartbeats 400000 in
theorem codec_int (A : Option Addr) (k c : Nat) (l : List UInt8) (n : Int) (w : World) (h : Reads w w.heap.size 1 A k (vb l)) (hk : k ≤ 549755813888) (hn : I64 n) :
    Calls Try.prog 9 #[.slice A k c, .int .i64 n] w (UintPost w.heap.size 5 w (k + (enc (zig n)).length) (l ++ enc (zig n))) := by
  go_enter Try.func9, Try.ntmps9
  go_wp2_with fail
  rw [zig_codec hn]
  refine (codec_uint A k c l (zig n) w h hk (zig_lt hn)).mono ?_
  rintro e w' ⟨g, cap, rfl, hown, hb⟩
  go_wp2
  go_ret
  exact ⟨g, cap, rfl, hown, hb⟩
set_option maxHeartbeats 400000 in
theorem ref_int (A : Option Addr) (k c : Nat) (l : List UInt8) (n : Int) (w : World) (h : Reads w w.heap.size 1 A k (vb l)) (hk : k ≤ 549755813888) (hn : I64 n) :
    Calls Try.prog 10 #[.slice A k c, .int .i64 n] w (UintPost w.heap.size 5 w (k + (enc (zig n)).length) (l ++ enc (zig n))) := by
  by_cases hn0 : n < 0
  · go_enter Try.func10, Try.ntmps10
    go_wp2_with fail
    rw [zig_ref_neg hn (by omega)]
    refine (ref_uint A k c l (zig n) w h hk (zig_lt hn)).mono ?_
    rintro e w' ⟨g, cap, rfl, hown, hb⟩
    go_wp2
    go_ret
    exact ⟨g, cap, rfl, hown, hb⟩
  · go_enter Try.func10, Try.ntmps10
    go_wp2_with fail
    rw [zig_ref_pos hn (by omega)]
    refine (ref_uint A k c l (zig n) w h hk (zig_lt hn)).mono ?_
    rintro e w' ⟨g, cap, rfl, hown, hb⟩
    go_wp2
    go_ret
    exact ⟨g, cap, rfl, hown, hb⟩
end Go.Proofs.Ytnhpkkmjicphgaa
