/- codec.TakeText where the text ends the bytes. Conditions: at most 2^39 bytes. -/
import Derived.Test.YtnhpkkmjicphgaaTakeText
namespace Go.Proofs.Ytnhpkkmjicphgaa
open Go.RowKit
attribute [local go_sem ↓] Go.wp_at_zero Go.wp_at_succ
set_option maxHeartbeats 1000000 in
theorem codec_text_end (A : Option Addr) (k c : Nat) (l t : List UInt8) (n : Nat) (most : Int) (w : World) (hr : Reads w w.heap.size 1 A k (vb l)) (hkc : k ≤ c) (hk : k ≤ 549755813888) (hn : n < 18446744073709551616) (hl : l = enc n ++ t) (h1 : (n : Int) ≤ most) (hm2 : most ≤ 9223372036854775807) (h3 : n = t.length) (ht : 0 < t.length) :
    Calls Try.prog 17 #[.slice A k c, .int .i64 most] w (TextYes w (t.take n) (t.drop n)) := by
  have hl2 := enc_room hr hk hl
  have H := Lib.hid (codec_takes.yes A k c l t n w hr hkc hk hn hl)
  clear hn hl hr
  subst h3
  by_cases h2 : (t.length : Int) < most
  all_goals
    go_enter Try.func17, Try.ntmps17
    go_wp2_with fail
    refine H.out.mono ?_
    rintro e w' ⟨A', c', rfl, hc', hr', hb'⟩
    obtain ⟨b, off, rfl, _, _⟩ := reads_form hr' ht
    have HV := Lib.hid (reads_takeA hr' (Nat.le_refl _))
    have hcv := fun c => conv_sl (c := c) (HV.out.drew)
    clear hr'
    by_cases hcn : c' = t.length
    · subst hcn
      go_wp2_with fail
      go_region_with (go_at_call 20; refine (clone_post (bytes_clone _ _ _ ([]) _ (reads_empty (by omega)) (by omega))).mono ?_; rintro e w2 ⟨A2, c2, rfl, hc2, hr2, hb2⟩; have hcv2 := fun c => conv_sl (c := c) (HV.out.drew.below hb2))
      all_goals go_wp2_with fail
      all_goals go_ret3
      all_goals exact text_yes_fin (s' := t) (s := t.take t.length) (t := t.drop t.length) (t' := []) (n := 0) (by simp) (by simp) (by simp) hc2 hr2 (hb'.trans ((below_undrew hb2).mono hb'.size))
    · have hnc : t.length < c' := by omega
      go_wp2_with fail
      go_region_with (go_at_call 20; refine (clone_post (bytes_clone _ _ _ ([]) _ (reads_empty (by omega)) (by omega))).mono ?_; rintro e w2 ⟨A2, c2, rfl, hc2, hr2, hb2⟩; have hcv2 := fun c => conv_sl (c := c) (HV.out.drew.below hb2))
      all_goals go_wp2_with fail
      all_goals go_ret3
      all_goals exact text_yes_fin (s' := t) (s := t.take t.length) (t := t.drop t.length) (t' := []) (n := 0) (by simp) (by simp) (by simp) hc2 hr2 (hb'.trans ((below_undrew hb2).mono hb'.size))
end Go.Proofs.Ytnhpkkmjicphgaa
