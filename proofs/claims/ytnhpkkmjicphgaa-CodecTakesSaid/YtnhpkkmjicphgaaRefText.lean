/- The reference's TakeText. Conditions: at most 2^39 bytes. -/
import Derived.Test.YtnhpkkmjicphgaaTakeText
namespace Go.Proofs.Ytnhpkkmjicphgaa
open Go.RowKit
attribute [local go_sem ↓] Go.wp_at_zero Go.wp_at_succ
set_option maxHeartbeats 400000 in
theorem ref_text_no (A : Option Addr) (k c : Nat) (l : List UInt8) (most : Int) (w : World) (hr : Reads w w.heap.size 1 A k (vb l)) (hkc : k ≤ c) (hk : k ≤ 549755813888) (hl : NoDec l) :
    Calls Try.prog 18 #[.slice A k c, .int .i64 most] w (TextNo w) := by
  have H := Lib.hid (ref_takes.no A k c l w hr hkc hk hl)
  clear hl hr
  go_enter Try.func18, Try.ntmps18
  go_wp2_with fail
  refine H.out.mono ?_
  rintro e w' ⟨rfl, hb'⟩
  go_wp2_with fail
  go_ret3
  exact ⟨rfl, hb'⟩
set_option maxHeartbeats 400000 in
theorem ref_text_long (A : Option Addr) (k c : Nat) (l t : List UInt8) (n : Nat) (most : Int) (w : World) (hr : Reads w w.heap.size 1 A k (vb l)) (hkc : k ≤ c) (hk : k ≤ 549755813888) (hn : n < 18446744073709551616) (hl : l = enc n ++ t) (hm2 : most ≤ 9223372036854775807) (hm : TooLong n t.length most) :
    Calls Try.prog 18 #[.slice A k c, .int .i64 most] w (TextNo w) := by
  have hl2 := enc_room hr hk hl
  have H := Lib.hid (ref_takes.yes A k c l t n w hr hkc hk hn hl)
  have HN := Lib.hid hn
  have HM := Lib.hid hm
  clear hn hl hr hm
  by_cases h1 : most < 0
  · go_enter Try.func18, Try.ntmps18
    go_wp2_with fail
    refine H.out.mono ?_
    rintro e w' ⟨A', c', rfl, hc', hr', hb'⟩
    go_wp2_with fail
    go_ret3
    exact ⟨rfl, hb'⟩
  · by_cases h2 : most < n
    · go_enter Try.func18, Try.ntmps18
      go_wp2_with fail
      refine H.out.mono ?_
      rintro e w' ⟨A', c', rfl, hc', hr', hb'⟩
      go_wp2_with fail
      go_ret3
      exact ⟨rfl, hb'⟩
    · have h3 : (t.length : Int) < n := by have := HM.out; unfold TooLong at this; omega
      go_enter Try.func18, Try.ntmps18
      go_wp2_with fail
      refine H.out.mono ?_
      rintro e w' ⟨A', c', rfl, hc', hr', hb'⟩
      go_wp2_with fail
      go_ret3
      exact ⟨rfl, hb'⟩
set_option maxHeartbeats 1000000 in
theorem ref_text_nil (A : Option Addr) (k c : Nat) (l t : List UInt8) (n : Nat) (most : Int) (w : World) (hr : Reads w w.heap.size 1 A k (vb l)) (hkc : k ≤ c) (hk : k ≤ 549755813888) (hn : n < 18446744073709551616) (hl : l = enc n ++ t) (h1 : (n : Int) ≤ most) (hm2 : most ≤ 9223372036854775807) (hn0 : n = 0) (ht : t = []) :
    Calls Try.prog 18 #[.slice A k c, .int .i64 most] w (TextYes w (t.take n) (t.drop n)) := by
  have hl2 := enc_room hr hk hl
  have H := Lib.hid (ref_takes.yes A k c l t n w hr hkc hk hn hl)
  clear hn hl hr
  have h0 : 0 ≤ most := by omega
  subst hn0 ht
  go_enter Try.func18, Try.ntmps18
  go_wp2_with fail
  refine H.out.mono ?_
  rintro e w' ⟨A', c', rfl, hc', hr', hb'⟩
  have HV : Hid (Reads w' w'.heap.size 1 A' 0 (vb [])) := Lib.hid (reads_empty rfl)
  have hcv := fun c => conv_sl (c := c) (HV.out.drew)
  clear hr'
  go_wp2_with fail
  go_region
  all_goals go_wp2_with fail
  all_goals go_ret3
  all_goals exact text_yes_fin (s' := []) (s := []) (t' := []) (n := 0) rfl (by simp) (by simp) (by simp) (reads_empty rfl) hb'.drew
set_option maxHeartbeats 1000000 in
theorem ref_text_end (A : Option Addr) (k c : Nat) (l t : List UInt8) (n : Nat) (most : Int) (w : World) (hr : Reads w w.heap.size 1 A k (vb l)) (hkc : k ≤ c) (hk : k ≤ 549755813888) (hn : n < 18446744073709551616) (hl : l = enc n ++ t) (h1 : (n : Int) ≤ most) (hm2 : most ≤ 9223372036854775807) (h3 : n = t.length) (ht : 0 < t.length) :
    Calls Try.prog 18 #[.slice A k c, .int .i64 most] w (TextYes w (t.take n) (t.drop n)) := by
  have hl2 := enc_room hr hk hl
  have H := Lib.hid (ref_takes.yes A k c l t n w hr hkc hk hn hl)
  clear hn hl hr
  have h0 : 0 ≤ most := by omega
  subst h3
  go_enter Try.func18, Try.ntmps18
  go_wp2_with fail
  refine H.out.mono ?_
  rintro e w' ⟨A', c', rfl, hc', hr', hb'⟩
  obtain ⟨b, off, rfl, _, _⟩ := reads_form hr' ht
  have HV := Lib.hid (reads_takeA hr' (Nat.le_refl _))
  have hcv := fun c => conv_sl (c := c) (HV.out.drew)
  clear hr'
  go_wp2_with fail
  go_region
  all_goals go_wp2_with fail
  all_goals go_ret3
  all_goals first | exact text_yes_fin (s' := t) (s := t) (t := []) (t' := []) (n := 0) rfl rfl rfl (by simp) (reads_empty rfl) hb'.drew | exact text_yes_fin (s' := t) (s := t.take t.length) (t := t.drop t.length) (t' := []) (n := 0) (by simp) (by simp) (by simp) (by simp) (reads_empty rfl) hb'.drew
set_option maxHeartbeats 1000000 in
theorem ref_text_mid (A : Option Addr) (k c : Nat) (l t : List UInt8) (n : Nat) (most : Int) (w : World) (hr : Reads w w.heap.size 1 A k (vb l)) (hkc : k ≤ c) (hk : k ≤ 549755813888) (hn : n < 18446744073709551616) (hl : l = enc n ++ t) (h1 : (n : Int) ≤ most) (hm2 : most ≤ 9223372036854775807) (h3 : n < t.length) :
    Calls Try.prog 18 #[.slice A k c, .int .i64 most] w (TextYes w (t.take n) (t.drop n)) := by
  have hl2 := enc_room hr hk hl
  have H := Lib.hid (ref_takes.yes A k c l t n w hr hkc hk hn hl)
  clear hn hl hr
  have h0 : 0 ≤ most := by omega
  go_enter Try.func18, Try.ntmps18
  go_wp2_with fail
  refine H.out.mono ?_
  rintro e w' ⟨A', c', rfl, hc', hr', hb'⟩
  obtain ⟨b, off, rfl, _, _⟩ := reads_form hr' (by omega)
  have HV := Lib.hid (reads_takeA hr' (Nat.le_of_lt h3))
  have HD := Lib.hid (reads_drop hr' (Nat.le_of_lt h3))
  have hcv := fun c => conv_sl (c := c) (HV.out.drew)
  have hcn : ¬ c' = n := by omega
  have hnc : n ≤ c' := by omega
  clear hr'
  go_wp2_with fail
  go_region
  all_goals go_wp2_with fail
  all_goals go_ret3
  all_goals exact text_yes_fin (t' := t.drop n) rfl rfl (by simp) (by simp; omega) (by simpa using HD.out.drew) hb'.drew
end Go.Proofs.Ytnhpkkmjicphgaa
