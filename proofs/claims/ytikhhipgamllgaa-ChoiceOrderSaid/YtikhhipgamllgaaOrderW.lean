/- The walk of ChoiceOrder. Conditions: numbers within their kinds. -/
import Derived.Test.YtikhhipgamllgaaKnowsC
import Derived.Test.YtikhhipgamllgaaNthR
import Derived.Test.YtikhhipgamllgaaRankR
namespace Go.Proofs.Ytikhhipgamllgaa
open Go.RowKit
set_option maxRecDepth 10000 in
set_option maxHeartbeats 1000000 in
theorem order_law (k c : Nat) (n : Int) (t : Bool) (w : World) (hk : k < 18446744073709551616) (hc : c < 18446744073709551616) :
    Calls Try.prog 4 #[.int .u64 k, .int .u64 c, .int .i64 n, .bool t] w fun o w' => o = .returned (.bool true) ∧ Below w.heap.size w w' := by
  have HC := Lib.hid hc
  have HK := Lib.hid hk
  clear hc hk
  obtain ⟨a, r, hv⟩ : ∃ (a : Nat) (r : Bool), rankV c n t = .tuple #[.int .u64 a, .bool r] := ⟨_, _, rfl⟩
  have HV := Lib.hid hv
  clear hv
  go_enter Try.func4, Try.ntmps4
  go_wp2_with (first | (go_at_call 19; refine (rank_any c n t _ HC.out).mono ?_; rintro o w' ⟨rfl, rfl⟩; rw [HV.out]) | (go_at_call 20; refine (rrank_any c n t _ HC.out).mono ?_; rintro o w1 ⟨rfl, hb1⟩; rw [HV.out]) | (go_at_call 21; refine (count_any n t _).mono ?_; rintro o w' ⟨rfl, rfl⟩) | (go_at_call 22; refine (rcount_any n t _).mono ?_; rintro o w' ⟨rfl, rfl⟩) | (go_at_call 23; refine (nth_any k n t _ HK.out).mono ?_; rintro o w' ⟨rfl, rfl⟩) | (go_at_call 24; refine (rnth_any k n t _ HK.out).mono ?_; rintro o w2 ⟨rfl, hb2⟩) | (go_at_call 18; refine (knows_any _).mono ?_; rintro o w3 ⟨rfl, hb3⟩))
  go_ret
  have s1 := hb1.size
  have s2 := hb2.size
  exact ⟨rfl, (hb1.trans (hb2.mono (by omega))).trans (hb3.mono (by omega))⟩
end Go.Proofs.Ytikhhipgamllgaa
