/- 'knows' returns true. Conditions: none. -/
import Derived.Test.YtnhpkkmjicphgaaInt
import Derived.Test.YtnhpkkmjicphgaaText
import Derived.Test.YtnhpkkmjicphgaaTakeInt
import Derived.Deep.DeepMust
namespace Go.Proofs.Ytnhpkkmjicphgaa
open Go.RowKit
theorem enc5 : enc 5 = [5] := enc_small (by decide)
theorem enc300 : enc 300 = [172, 2] := by rw [enc_big (by decide), enc_small (by decide)]; rfl
theorem zig3 : zig (-3) = 5 := by decide
theorem zag5 : zag 5 = -3 := by decide
theorem encTab : encT (ByteArray.mk #[97, 98]).data.toList = [2, 97, 98] := by
  show enc 2 ++ [97, 98] = _
  rw [enc_small (by decide)]; rfl
theorem int3_nil (w : World) : Calls Try.prog 9 #[.slice none 0 0, .int .i64 (-3)] w (UintPost w.heap.size 5 w 1 [5]) := by
  have h := codec_int none 0 0 [] (-3) w Reads.none_ (by omega) ⟨by omega, by omega⟩
  rw [zig3, enc5] at h
  exact h
theorem uint300_nil (w : World) : Calls Try.prog 7 #[.slice none 0 0, .int .u64 300] w (UintPost w.heap.size 5 w 2 [172, 2]) := by
  have h := codec_uint_nil 300 w (by omega)
  rw [enc300] at h
  exact h
theorem textab_nil (w : World) : Calls Try.prog 11 #[.slice none 0 0, .string ⟨#[97, 98]⟩] w (UintPost w.heap.size 5 w 3 [2, 97, 98]) := by
  have h := codec_text none 0 0 [] ⟨#[97, 98]⟩ w Reads.none_ (by omega) (by decide)
  rw [encTab] at h
  exact h
set_option maxHeartbeats 1000000 in
theorem knows_any (w : World) : Calls Try.prog 6 #[] w fun e w' => e = .returned (.bool true) ∧ Below w.heap.size w w' := by
  obtain ⟨i0, hi0, hz0, hz1, hz2⟩ := info_parts info5
  go_enter Try.func6, Try.ntmps6
  go_wp2_with fail
  refine (int3_nil _).mono ?_
  rintro e w1 ⟨g1, c1, rfl, hown1, hb1⟩
  have hB1 := hb1.size
  go_wp2_with (at_builtin; go_must (refine wpList_append_lies _ rfl (.tmp 5) (.tmp 6) 22 rfl w.heap.size 5 i0 (.int .u8 0) 1 1 Try.underlying22 hi0 hz0 hz1 hz2 rfl (by decide) (.slice (some ⟨g1, 0, none⟩) 1 c1) 1 (vb [5]) rfl (hown1.alloc _) ⟨w1.heap.size, 0, none⟩ 1 1 [.int .u8 9] rfl rfl (cell_one_new _ _ _) (by simp [Value.oneCell']) (by omega) (by decide) (by decide) (by simp; omega) (w1.heap.size + 1) (by simp) ?_); intro g2 c2 w2 hown2 hg2 hat2 hlt2)
  have hb2 : Below w.heap.size w w2 := below_app hb1 hB1 (fun j hj => (hown1.lt j hj).1) hg2
  have hr2 : Reads w2 w2.heap.size 1 (some ⟨g2, 0, none⟩) 2 (vb [5, 9]) := Reads.of_own hown2
  have hc2 : 2 ≤ c2 := by
    rcases hown2.2 with ⟨h, _⟩ | ⟨_, _, _, h, _, _, hc, _⟩
    · cases h
    · injection h with _ _ h; rw [h]; exact hc
  have H := Lib.hid (codec_int_yes (some ⟨g2, 0, none⟩) 2 c2 [5, 9] [9] 5 w2 hr2 hc2 (by omega) (by omega) (by rw [enc5]; rfl))
  have HB := Lib.hid hb2
  clear hown1 hown2 hr2 hat2 hb1 hb2 hg2
  go_wp2_with fail
  refine H.out.mono ?_
  rintro e w3 ⟨A3, c3, rfl, hc3, hr3, hb3⟩
  rw [zag5]
  go_wp2_with fail
  refine (uint300_nil _).mono ?_
  rintro e w4 ⟨g4, c4, rfl, hown4, hb4⟩
  have hcv4 := conv_sl (c := c4) (Reads.of_own hown4)
  go_wp2_with fail
  refine (textab_nil _).mono ?_
  rintro e w5 ⟨g5, c5, rfl, hown5, hb5⟩
  have hcv5 := conv_sl (c := c5) (Reads.of_own hown5)
  go_wp2_with fail
  go_ret
  have hz := HB.out.size
  exact ⟨rfl, ((HB.out.trans (hb3.mono hz)).trans (hb4.mono (by have := hb3.size; omega))).trans (hb5.mono (by have := hb3.size; have := hb4.size; omega))⟩
end Go.Proofs.Ytnhpkkmjicphgaa
