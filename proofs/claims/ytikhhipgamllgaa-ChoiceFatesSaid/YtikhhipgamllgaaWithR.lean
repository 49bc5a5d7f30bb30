/- The reference's With. Conditions: numbers within their kinds. -/
import Derived.Test.YtikhhipgamllgaaWithP
import Derived.Test.YtikhhipgamllgaaOf
namespace Go.Proofs.Ytikhhipgamllgaa
open Go.RowKit
set_option maxRecDepth 100000 in
set_option maxHeartbeats 1000000 in
theorem rwith_any (c : Nat) (i f : Int) (w : World) (hc : c < 18446744073709551616) :
    Calls Try.prog 15 #[.int .u64 c, .int .i64 i, .int .i64 f] w fun e w' => e = .returned (.int .u64 (withN c i f : Nat)) ∧ Below w.heap.size w w' := by
  have HC := Lib.hid hc
  clear hc
  by_cases h : 0 ≤ i ∧ i ≤ 31 ∧ 0 ≤ f ∧ f ≤ 2
  · obtain ⟨h1, h2, hf0, hf2⟩ := h
    obtain ⟨j, rfl⟩ := Int.eq_ofNat_of_zero_le h1
    obtain ⟨g, rfl⟩ := Int.eq_ofNat_of_zero_le hf0
    have HW : Hid (withN c j g = setF c j g) := Lib.hid (by unfold withN; rw [if_pos (by omega)]; rfl)
    have hz := zeros
    go_enter Try.func15, Try.ntmps15
    go_wp2_with (first | (go_at_call 70; refine (fates_any c _ HC.out).mono ?_; rintro e w' ⟨rfl, hb⟩) | (refine wpList_store_row rfl 112 _ _ rfl w'.heap.size (iv (fates c)) rfl rfl 112 _ (Blk.new w' 112 _) (by rw [size112, iv_size, fates_len]) (by rw [iv_size, fates_len]; rfl) (iv_one _) ?_; generalize hw2 : World.setRow _ _ _ = w2; have hB : Blk w2 w'.heap.size 112 (iv (fates c)) := (by rw [← hw2]; exact setRow_heap _ _ _ _ _ _ (Blk.new _ _ _)); have hcell : w2.cell? ⟨w'.heap.size, j, none⟩ = some (.int .i64 (((fates c)[j]'(by rw [fates_len]; omega) : Nat) : Int)) := (by rw [hB.cell j, iv_get _ _ (by rw [fates_len]; omega)]); have hfro := hB.frozen j; have HB := Lib.hid hB; have HZ := Lib.hid hw2; clear hB hw2) | (refine wpList_load_row rfl 112 _ rfl w'.heap.size rfl 112 (iv ((fates c).set j g)) (0, 0) _ (by have h := HB.out.set_ j (.int .i64 (g : Int)); rw [iv_set] at h; exact h) Try.underlying112 rfl (by rw [size112, iv_size, List.length_set, fates_len]) ?_) | (go_at_call 71; refine (of_any ((fates c).set j g) _ (by rw [List.length_set, fates_len]) (setF_mem (by omega))).mono ?_; rintro e w3 ⟨rfl, hb3⟩))
    go_ret
    have hs := hb.size
    have h2 : Below w.heap.size w w2 := by
      rw [← HZ.out]
      exact below_setRow (hb.alloc hs _) hs
    have h3 := h2.setCell (p := ⟨w'.heap.size, j, none⟩) hs (.int .i64 (g : Int))
    exact ⟨by rw [HW.out]; rfl, h3.trans (hb3.mono (h3.size))⟩
  · have HW : Hid (withN c i f = c) := Lib.hid (by unfold withN; rw [if_neg (by omega)])
    by_cases h1 : 0 ≤ i
    · by_cases h2 : i ≤ 31
      · by_cases h3 : 0 ≤ f
        · have h4 : ¬ f ≤ 2 := by omega
          go_enter Try.func15, Try.ntmps15
          go_wp2
          go_ret
          exact ⟨by rw [HW.out]; rfl, Below.refl _ _⟩
        · go_enter Try.func15, Try.ntmps15
          go_wp2
          go_ret
          exact ⟨by rw [HW.out]; rfl, Below.refl _ _⟩
      · go_enter Try.func15, Try.ntmps15
        go_wp2
        go_ret
        exact ⟨by rw [HW.out]; rfl, Below.refl _ _⟩
    · go_enter Try.func15, Try.ntmps15
      go_wp2
      go_ret
      exact ⟨by rw [HW.out]; rfl, Below.refl _ _⟩
end Go.Proofs.Ytikhhipgamllgaa
