/- The reference's Fate. Conditions: numbers within their kinds. -/
import Derived.Test.YtikhhipgamllgaaOf
import Derived.Deep.DeepMust
namespace Go.Proofs.Ytikhhipgamllgaa
open Go.RowKit
theorem run_index_iv (l : List Nat) (x j : Nat) (hj : j < 32) (hg : (iv l)[j]? = some (.int .i64 (x : Int))) (w : World) : (Instr.index 112 (.agg (iv l)) (.int .i64 j)).run Try.prog w = .ok (.int .i64 (x : Int)) w := by
  simp [Instr.index, asIntOf, run_underlying Try.underlying112, part]
  rw [if_pos hj, hg]
  rfl
set_option maxRecDepth 100000 in
set_option maxHeartbeats 1000000 in
theorem rfate_any (c : Nat) (i : Int) (w : World) (hc : c < 18446744073709551616) :
    Calls Try.prog 13 #[.int .u64 c, .int .i64 i] w fun e w' => e = .returned (.int .i64 (fateI c i)) ∧ Below w.heap.size w w' := by
  have HC := Lib.hid hc
  clear hc
  by_cases h1 : 0 ≤ i
  · by_cases h2 : i ≤ 31
    · obtain ⟨j, rfl⟩ := Int.eq_ofNat_of_zero_le h1
      have hj : j < 32 := by omega
      have hg : (iv (fates c))[j]? = some (.int .i64 (fate c j : Nat)) := by
        rw [iv_get _ _ (by rw [fates_len]; exact hj)]
        have := fates_get (c := c) hj
        rw [List.getD_eq_getElem?_getD, List.getElem?_eq_getElem (by rw [fates_len]; exact hj)] at this
        simp only [Option.getD_some] at this
        rw [this]
      have HR : Hid (fateI c j = (fate c j : Nat)) := Lib.hid (by unfold fateI; rw [if_pos ⟨h1, by omega⟩]; rfl)
      have HG := Lib.hid hg
      clear hg
      go_enter Try.func13, Try.ntmps13
      go_wp2_with (go_at_call 70; refine (fates_any c _ HC.out).mono ?_; rintro e w' ⟨rfl, hb⟩)
      rw [run_index_iv (fates c) (fate c j) j hj HG.out]
      go_wp2
      go_ret
      exact ⟨by rw [HR.out]; rfl, hb⟩
    · have HR : Hid (fateI c i = 0) := Lib.hid (by unfold fateI; rw [if_neg (by omega)])
      go_enter Try.func13, Try.ntmps13
      go_wp2
      go_ret
      exact ⟨by rw [HR.out]; rfl, Below.refl _ _⟩
  · have HR : Hid (fateI c i = 0) := Lib.hid (by unfold fateI; rw [if_neg (by omega)])
    go_enter Try.func13, Try.ntmps13
    go_wp2
    go_ret
    exact ⟨by rw [HR.out]; rfl, Below.refl _ _⟩
end Go.Proofs.Ytikhhipgamllgaa
