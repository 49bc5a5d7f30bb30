/- The walk of ChoiceFates. Conditions: numbers within their kinds. -/
import Derived.Test.YtikhhipgamllgaaKnowsC
import Derived.Test.YtikhhipgamllgaaFateR
import Derived.Test.YtikhhipgamllgaaWithR
import Derived.Test.YtikhhipgamllgaaRightR
namespace Go.Proofs.Ytikhhipgamllgaa
open Go.RowKit
set_option maxRecDepth 10000 in
set_option maxHeartbeats 1000000 in
theorem fates_law (c : Nat) (i f n : Int) (w : World) (hc : c < 18446744073709551616) (hi : -9223372036854775808 ≤ i ∧ i ≤ 9223372036854775807) :
    Calls Try.prog 3 #[.int .u64 c, .int .i64 i, .int .i64 f, .int .i64 n] w fun o w' => o = .returned (.bool true) ∧ Below w.heap.size w w' := by
  have HC := Lib.hid hc
  have HI := Lib.hid hi
  clear hc hi
  go_enter Try.func3, Try.ntmps3
  go_wp2_with (first | (go_at_call 12; refine (fate_any c i _ HC.out).mono ?_; rintro o w' ⟨rfl, rfl⟩) | (go_at_call 13; refine (rfate_any c i _ HC.out).mono ?_; rintro o w1 ⟨rfl, hb1⟩) | (go_at_call 14; refine (with_any c i f _ HC.out HI.out).mono ?_; rintro o w' ⟨rfl, rfl⟩) | (go_at_call 15; refine (rwith_any c i f _ HC.out).mono ?_; rintro o w2 ⟨rfl, hb2⟩) | (go_at_call 16; refine (right_any c n _ HC.out).mono ?_; rintro o w' ⟨rfl, rfl⟩) | (go_at_call 17; refine (rright_any c n _ HC.out).mono ?_; rintro o w3 ⟨rfl, hb3⟩) | (go_at_call 18; refine (knows_any _).mono ?_; rintro o w4 ⟨rfl, hb4⟩))
  go_ret
  have s1 := hb1.size
  have s2 := hb2.size
  have s3 := hb3.size
  exact ⟨rfl, ((hb1.trans (hb2.mono (by omega))).trans (hb3.mono (by omega))).trans (hb4.mono (by omega))⟩
end Go.Proofs.Ytikhhipgamllgaa
