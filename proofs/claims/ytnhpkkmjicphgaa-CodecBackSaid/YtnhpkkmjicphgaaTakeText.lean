/- TakeText, both texts. Conditions: at most 2^39 bytes. -/
import Derived.Test.YtnhpkkmjicphgaaTakeAny
import Derived.WalkLawsBesides
import Derived.Deep.DeepMust
namespace Go.Proofs.Ytnhpkkmjicphgaa
open Go.RowKit
attribute [local go_sem ↓] Go.wp_at_zero Go.wp_at_succ
def TextYes (w : World) (s t : List UInt8) (e : Ending) (w' : World) : Prop :=
  ∃ A c, e = .returned (.tuple #[.string ⟨s.toArray⟩, .slice A t.length c, .bool true]) ∧ t.length ≤ c ∧ Reads w' w'.heap.size 1 A t.length (vb t) ∧ Below w.heap.size w w'
def TextNo (w : World) (e : Ending) (w' : World) : Prop := e = .returned (.tuple #[.string ByteArray.empty, .slice none 0 0, .bool false]) ∧ Below w.heap.size w w'
set_option maxHeartbeats 400000 in
theorem codec_text_no (A : Option Addr) (k c : Nat) (l : List UInt8) (most : Int) (w : World) (hr : Reads w w.heap.size 1 A k (vb l)) (hkc : k ≤ c) (hk : k ≤ 549755813888) (hl : NoDec l) :
    Calls Try.prog 17 #[.slice A k c, .int .i64 most] w (TextNo w) := by
  have H := Lib.hid (codec_takes.no A k c l w hr hkc hk hl)
  clear hl hr
  go_enter Try.func17, Try.ntmps17
  go_wp2_with fail
  refine H.out.mono ?_
  rintro e w' ⟨rfl, hb'⟩
  go_wp2_with fail
  go_ret3
  exact ⟨rfl, hb'⟩
/-- is the text too long? -/
def TooLong (n r : Nat) (most : Int) : Prop := most < 0 ∨ most < n ∨ r < n
theorem enc_room {k n : Nat} {l t : List UInt8} {w : World} {A : Option Addr} (hr : Reads w w.heap.size 1 A k (vb l)) (hk : k ≤ 549755813888) (hl : l = enc n ++ t) : t.length ≤ 549755813888 := by
  have h1 : l.length = k := by simpa [vb_len] using hr.1
  rw [hl] at h1
  simp at h1
  omega
theorem reads_takeA {w : World} {B k : Nat} {A : Option Addr} {l : List UInt8} (h : Reads w B 1 A l.length (vb l)) (hk : k ≤ l.length) : Reads w B 1 A k (vb (l.take k)) := by
  refine ⟨by simp [vb_len, Nat.min_eq_left hk], fun hn => ?_⟩
  obtain ⟨ad, h1, hb, hc⟩ := h.2 (by omega)
  refine ⟨ad, h1, hb, fun j u hu => hc j u ?_⟩
  rcases Nat.lt_or_ge j k with hj | hj
  · rw [← hu]
    simp [vb, hj]
  · rw [List.getElem?_eq_none (by simp [vb_len]; omega)] at hu
    cases hu
theorem vb_drop (l : List UInt8) (k : Nat) : vb (l.drop k) = (vb l).drop (k * 1) := by simp [vb]
theorem reads_cut {w : World} {B k c : Nat} {A : Option Addr} {l : List UInt8} (h : Reads w B 1 A l.length (vb l)) (hk : k ≤ l.length) (hc : l.length ≤ c) : Reads w B 1 (if c = k then A else A.map (·.add (k * 1))) (l.length - k) (vb (l.drop k)) := by
  rw [vb_drop]
  exact h.cut hk hc
set_option maxHeartbeats 400000 in
theorem codec_text_long (A : Option Addr) (k c : Nat) (l t : List UInt8) (n : Nat) (most : Int) (w : World) (hr : Reads w w.heap.size 1 A k (vb l)) (hkc : k ≤ c) (hk : k ≤ 549755813888) (hn : n < 18446744073709551616) (hl : l = enc n ++ t) (hm2 : most ≤ 9223372036854775807) (hm : TooLong n t.length most) :
    Calls Try.prog 17 #[.slice A k c, .int .i64 most] w (TextNo w) := by
  have hl2 := enc_room hr hk hl
  have H := Lib.hid (codec_takes.yes A k c l t n w hr hkc hk hn hl)
  have HN := Lib.hid hn
  have HM := Lib.hid hm
  clear hn hl hr hm
  by_cases h1 : most < 0
  · go_enter Try.func17, Try.ntmps17
    go_wp2_with fail
    refine H.out.mono ?_
    rintro e w' ⟨A', c', rfl, hc', hr', hb'⟩
    go_wp2_with fail
    go_ret3
    exact ⟨rfl, hb'⟩
  · by_cases h2 : (t.length : Int) < most
    · have h3 : (t.length : Int) < n := by have := HM.out; unfold TooLong at this; omega
      go_enter Try.func17, Try.ntmps17
      go_wp2_with fail
      refine H.out.mono ?_
      rintro e w' ⟨A', c', rfl, hc', hr', hb'⟩
      go_wp2_with fail
      go_ret3
      exact ⟨rfl, hb'⟩
    · have h3 : most < n := by have := HM.out; unfold TooLong at this; omega
      go_enter Try.func17, Try.ntmps17
      go_wp2_with fail
      refine H.out.mono ?_
      rintro e w' ⟨A', c', rfl, hc', hr', hb'⟩
      go_wp2_with fail
      go_ret3
      exact ⟨rfl, hb'⟩
theorem reads_empty {w : World} {B n : Nat} {A : Option Addr} (h : n = 0) : Reads w B 1 A n (vb []) := by
  subst h
  exact ⟨by simp [vb], fun h => absurd h (by omega)⟩
theorem text_yes_fin {w w2 : World} {s s' t t' : List UInt8} {A : Option Addr} {c n : Nat} (hs : s' = s) (ht : t' = t) (hn : n = t.length) (hc : t'.length ≤ c) (hr : Reads w2 w2.heap.size 1 A t'.length (vb t')) (hb : Below w.heap.size w w2) :
    TextYes w s t (.returned (.tuple #[.string ⟨s'.toArray⟩, .slice A n c, .bool true])) w2 := by
  subst hs ht hn
  exact ⟨A, c, rfl, hc, hr, hb⟩
set_option maxHeartbeats 1000000 in
theorem codec_text_nil (A : Option Addr) (k c : Nat) (l t : List UInt8) (n : Nat) (most : Int) (w : World) (hr : Reads w w.heap.size 1 A k (vb l)) (hkc : k ≤ c) (hk : k ≤ 549755813888) (hn : n < 18446744073709551616) (hl : l = enc n ++ t) (h1 : (n : Int) ≤ most) (hm2 : most ≤ 9223372036854775807) (hn0 : n = 0) (ht : t = []) :
    Calls Try.prog 17 #[.slice A k c, .int .i64 most] w (TextYes w (t.take n) (t.drop n)) := by
  have hl2 := enc_room hr hk hl
  have H := Lib.hid (codec_takes.yes A k c l t n w hr hkc hk hn hl)
  clear hn hl hr
  subst hn0 ht
  by_cases h2 : (0 : Int) < most
  all_goals
    go_enter Try.func17, Try.ntmps17
    go_wp2_with fail
    refine H.out.mono ?_
    rintro e w' ⟨A', c', rfl, hc', hr', hb'⟩
    have HV : Hid (Reads w' w'.heap.size 1 A' 0 (vb [])) := Lib.hid (reads_empty rfl)
    have hcv := fun c => conv_sl (c := c) (HV.out.drew)
    clear hr'
    go_wp2_with fail
    go_region_with (go_at_call 20; refine (clone_post (bytes_clone _ _ _ ([]) _ (reads_empty (by omega)) (by omega))).mono ?_; rintro e w2 ⟨A2, c2, rfl, hc2, hr2, hb2⟩; have hcv2 := fun c => conv_sl (c := c) (HV.out.drew.below hb2))
    all_goals go_wp2_with fail
    all_goals go_ret3
    all_goals exact text_yes_fin (s' := []) (s := []) rfl (by simp) (by simp) hc2 hr2 (hb'.trans ((below_undrew hb2).mono hb'.size))
set_option maxHeartbeats 1000000 in
theorem codec_text_mid (A : Option Addr) (k c : Nat) (l t : List UInt8) (n : Nat) (most : Int) (w : World) (hr : Reads w w.heap.size 1 A k (vb l)) (hkc : k ≤ c) (hk : k ≤ 549755813888) (hn : n < 18446744073709551616) (hl : l = enc n ++ t) (h1 : (n : Int) ≤ most) (hm2 : most ≤ 9223372036854775807) (h3 : n < t.length) :
    Calls Try.prog 17 #[.slice A k c, .int .i64 most] w (TextYes w (t.take n) (t.drop n)) := by
  have hl2 := enc_room hr hk hl
  have H := Lib.hid (codec_takes.yes A k c l t n w hr hkc hk hn hl)
  clear hn hl hr
  by_cases h2 : (t.length : Int) < most
  all_goals
    go_enter Try.func17, Try.ntmps17
    go_wp2_with fail
    refine H.out.mono ?_
    rintro e w' ⟨A', c', rfl, hc', hr', hb'⟩
    obtain ⟨b, off, rfl, _, _⟩ := reads_form hr' (by omega)
    have HV := Lib.hid (reads_takeA hr' (Nat.le_of_lt h3))
    have HD := Lib.hid (reads_drop hr' (Nat.le_of_lt h3))
    have hcv := fun c => conv_sl (c := c) (HV.out.drew)
    have hcn : ¬ c' = n := by omega
    have hnc : n ≤ c' := by omega
    clear hr'
    go_wp2_with fail
    go_region_with (go_at_call 20; refine (clone_post (bytes_clone _ _ _ (t.drop n) _ HD.out.drew (by omega))).mono ?_; rintro e w2 ⟨A2, c2, rfl, hc2, hr2, hb2⟩; have hcv2 := fun c => conv_sl (c := c) (HV.out.drew.below hb2))
    all_goals go_wp2_with fail
    all_goals go_ret3
    all_goals exact text_yes_fin rfl rfl (by simp) hc2 hr2 (hb'.trans ((below_undrew hb2).mono hb'.size))
end Go.Proofs.Ytnhpkkmjicphgaa
