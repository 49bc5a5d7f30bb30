/- CodecBack: the walk. Conditions: at most 500 bytes each. -/
import Derived.Test.YtnhpkkmjicphgaaBackW
import Derived.Deep.DeepMust
namespace Go.Proofs.Ytnhpkkmjicphgaa
open Go.RowKit
theorem app_len (X l : List UInt8) : X.length + l.length = (X ++ l).length := by simp
/-- what each operation of the last region leaves, by the phase -/
def back_yesS (l : List UInt8) (u : Nat) (t : List UInt8) (w8 : World) (a0 : Option Addr) (cap0 : Nat) (B4 : Option Addr) (q4 : Nat) : List (Nat → Value → World → Prop) :=
  [anyPhase (eqv (.bool true)),
   anyPhase (eqv (.bool false)),
   anyPhase (eqv (.bool false)),
   anyPhase (eqv undef),
   anyPhase (eqv undef),
   anyPhase (eqv (.bool false)),
   anyPhase (eqv (.bool false)),
   anyPhase (eqv undef),
   anyPhase (eqv undef),
   anyPhase (eqv undef),
   anyPhase (eqv (.bool false)),
   anyPhase (eqv (.bool false)),
   anyPhase (eqv (.bool true)),
   anyPhase (eqv (.bool true)),
   anyPhase (eqv (.int .u64 (u : Int))),
   atPhase 1 (owned (enc u) w8.heap.size),
   anyPhase (eqv (.slice B4 t.length q4)),
   fromPhase 2 (sl (enc u ++ t)),
   anyPhase (eqv (.string ⟨(enc u ++ t).toArray⟩)),
   anyPhase (eqv (.slice a0 l.length cap0)),
   anyPhase (eqv (.string ⟨(enc u ++ t).toArray⟩)),
   anyPhase (eqv (.bool true)),
   anyPhase (eqv (.bool true)),
   anyPhase (eqv (.bool true)),
   anyPhase (eqv (.bool true))]
set_option maxRecDepth 100000 in
set_option maxHeartbeats 4000000 in
theorem back_yes (a0 : Option Addr) (cap0 : Nat) (l : List UInt8) (n : Nat) (m : Int) (s : ByteArray) (w0 : World) (hr : Reads w0 w0.heap.size 1 a0 l.length (vb l)) (hc : l.length ≤ cap0) (hn : n < 18446744073709551616) (hi : I64 m) (h1 : l.length ≤ 500) (h3 : s.size ≤ 500) (u : Nat) (t : List UInt8) (hu : u < 18446744073709551616) (hl : l = enc u ++ t) :
    Calls Try.prog 5 #[.slice a0 l.length cap0, .int .u64 n, .int .i64 m, .string s] w0 (LawPost w0) := by
  have HU := Lib.hid hu
  have HLT := Lib.hid hl
  have htl : t.length ≤ 500 := by
    have := congrArg List.length hl
    simp at this; omega
  have heu := enc_len10 hu
  have C13 : Hid (∀ w, Reads w w.heap.size 1 a0 l.length (vb l) → Calls Try.prog 13 #[.slice a0 l.length cap0] w (TP (.int .u64 (u : Int)) t true w)) := Lib.hid (fun w hr => (codec_takes.yes a0 l.length cap0 l t u w hr hc (by omega) hu hl).mono fun _ _ h => tp_yes h)
  clear hu hl
  obtain ⟨i0, hi0, hz0, hz1, hz2⟩ := info_parts info5
  have he1 := enc_len10 hn
  have he2 := enc_len10 (zig_lt hi)
  have he3 : (encT s.data.toList).length ≤ 510 := by
    have := enc_len10 (n := s.size) (by omega)
    rw [encT_len, baLen]; omega
  have HR := Lib.hid hr
  have HN := Lib.hid hn
  have HI := Lib.hid hi
  clear hn hi hr
  go_enter Try.func5, Try.ntmps5
  go_wp2_with fail
  refine (knows_any _).mono ?_
  rintro e w1 ⟨rfl, hb⟩
  have HB1 := Lib.hid hb
  clear hb
  go_wp2_with fail
  refine (codec_uint_nil n _ HN.out).mono fun e w2 hp => ?_
  obtain ⟨g1, c1, rfl, ho1, hb⟩ := uint_len hp
  have HO1 := Lib.hid ho1
  have HBu1 := Lib.hid hb
  have HBf1 := Lib.hid (bnext HB1.out hb)
  clear hp hb ho1
  go_wp2_with (at_builtin; go_must (refine wpList_append_any _ rfl (.tmp 36) (.tmp 37) 22 rfl w1.heap.size 5 i0 (.int .u8 0) 1 1 Try.underlying22 hi0 hz0 hz1 hz2 rfl (by decide) (.slice (some ⟨g1, 0, none⟩) (enc n).length c1) (enc n).length (vb (enc n)) rfl HO1.out w0.heap.size a0 l.length cap0 (vb l) rfl (HR.out.below HBf1.out) (vb_one l) (by unfold maxLen; omega) (by omega) HBu1.out.size ?_); intro v1 wa1 hown2 hg2 hat2; obtain ⟨A1, k1, hv, hk1, hr2, hbu⟩ := own_app HBu1.out HO1.out rfl hown2 hg2; subst hv; have R1 := Lib.hid hr2; have HK1 := Lib.hid hk1; have HBa1 := Lib.hid (bnext HB1.out hbu); have HU1 := Lib.hid hbu; clear hown2 hg2 hat2 hr2 hbu hk1 HO1 HBu1 HBf1)
  rw [app_len]
  refine (back_uint A1 k1 l n _ R1.out HK1.out h1 HN.out).mono ?_
  rintro e w3 ⟨B1, q1, rfl, hr2, hb⟩
  have T1 := Lib.hid hr2
  have HB3 : Hid (Below w0.heap.size w0 w3) := Lib.hid (bnext HBa1.out hb)
  have HS1 := Lib.hid (bnext HU1.out hb)
  clear hr2 hb HU1 HBa1 R1 HK1
  go_wp2_with fail
  refine (int_nil m _ HI.out).mono fun e w4 hp => ?_
  obtain ⟨g2, c2, rfl, ho2, hb⟩ := uint_len hp
  have HO2 := Lib.hid ho2
  have HBu2 := Lib.hid hb
  have HBf2 := Lib.hid (bnext HB3.out hb)
  clear hp hb ho2
  go_wp2_with (at_builtin; go_must (refine wpList_append_any _ rfl (.tmp 45) (.tmp 46) 22 rfl w3.heap.size 5 i0 (.int .u8 0) 1 1 Try.underlying22 hi0 hz0 hz1 hz2 rfl (by decide) (.slice (some ⟨g2, 0, none⟩) (enc (zig m)).length c2) (enc (zig m)).length (vb (enc (zig m))) rfl HO2.out w0.heap.size a0 l.length cap0 (vb l) rfl (HR.out.below HBf2.out) (vb_one l) (by unfold maxLen; omega) (by omega) HBu2.out.size ?_); intro v2 wa2 hown2 hg2 hat2; obtain ⟨A2, k2, hv, hk2, hr2, hbu⟩ := own_app HBu2.out HO2.out rfl hown2 hg2; subst hv; have R2 := Lib.hid hr2; have HK2 := Lib.hid hk2; have HBa2 := Lib.hid (bnext HB3.out hbu); have HU2 := Lib.hid hbu; clear hown2 hg2 hat2 hr2 hbu hk2 HO2 HBu2 HBf2)
  rw [app_len]
  refine (back_int A2 k2 l m _ R2.out HK2.out h1 HI.out).mono ?_
  rintro e w5 ⟨B2, q2, rfl, hr2, hb⟩
  have T2 := Lib.hid hr2
  have HB5 : Hid (Below w0.heap.size w0 w5) := Lib.hid (bnext HBa2.out hb)
  have HS2 := Lib.hid (bnext HU2.out hb)
  clear hr2 hb HU2 HBa2 R2 HK2
  go_wp2_with fail
  refine (text_nil s _ h3).mono fun e w6 hp => ?_
  obtain ⟨g3, c3, rfl, ho3, hb⟩ := uint_len hp
  have HO3 := Lib.hid ho3
  have HBu3 := Lib.hid hb
  have HBf3 := Lib.hid (bnext HB5.out hb)
  clear hp hb ho3
  go_wp2_with (at_builtin; go_must (refine wpList_append_any _ rfl (.tmp 54) (.tmp 55) 22 rfl w5.heap.size 5 i0 (.int .u8 0) 1 1 Try.underlying22 hi0 hz0 hz1 hz2 rfl (by decide) (.slice (some ⟨g3, 0, none⟩) (encT s.data.toList).length c3) (encT s.data.toList).length (vb (encT s.data.toList)) rfl HO3.out w0.heap.size a0 l.length cap0 (vb l) rfl (HR.out.below HBf3.out) (vb_one l) (by unfold maxLen; omega) (by omega) HBu3.out.size ?_); intro v3 wa3 hown2 hg2 hat2; obtain ⟨A3, k3, hv, hk3, hr2, hbu⟩ := own_app HBu3.out HO3.out rfl hown2 hg2; subst hv; have R3 := Lib.hid hr2; have HK3 := Lib.hid hk3; have HBa3 := Lib.hid (bnext HB5.out hbu); have HU3 := Lib.hid hbu; clear hown2 hg2 hat2 hr2 hbu hk3 HO3 HBu3 HBf3)
  rw [app_len]
  refine (back_text A3 k3 l s _ R3.out HK3.out h1 h3).mono ?_
  rintro e w7 ⟨B3, q3, rfl, hr2, hb⟩
  have T3 := Lib.hid hr2
  have HB7 : Hid (Below w0.heap.size w0 w7) := Lib.hid (bnext HBa3.out hb)
  have HS3 := Lib.hid (bnext HU3.out hb)
  clear hr2 hb HU3 HBa3 R3 HK3
  have T17 := Lib.hid ((T1.out.next HS2.out).next HS3.out)
  have T27 := Lib.hid (T2.out.next HS3.out)
  clear T1 T2 HS1 HS2 HS3 HB1 HB3 HB5
  have v1 := fun c => conv_sl (c := c) T17.out
  have v2 := fun c => conv_sl (c := c) T27.out
  have v3 := fun c => conv_sl (c := c) T3.out
  have v4 := fun c => conv_sl (c := c) (HR.out.next HB7.out)
  go_wp2_with fail
  clear v1 v2 v3 v4
  refine (C13.out _ (HR.out.next HB7.out)).mono ?_
  rintro e w8 ⟨B4, q4, rfl, r4, hb⟩
  have T4 := Lib.hid r4
  have HRL : Hid (Reads w8 w8.heap.size 1 a0 l.length (vb (enc u ++ t))) := by
    have h := (HR.out.next HB7.out).next hb
    rw [HLT.out] at h ⊢
    exact Lib.hid h
  have HB8 := Lib.hid (bnext HB7.out hb)
  clear r4 hb T17 T27 T3 HB7
  go_wp2_with fail
  refine wp_region_all (fun k j => (back_yesS l u t w8 a0 cap0 B4 q4).getD j (fun _ _ _ => True) k) (fun _ w => Below w8.heap.size w8 w) (fun w w' => w' = w) turn2 [15, 17] [113, 114, 115, 116, 117, 118, 119, 120, 121, 122, 123, 124, 125, 126, 127, 128, 129, 130, 131, 132, 133, 134, 135, 136, 8] mixed_ok (by kernel_rfl) (by kernel_rfl) (by kernel_rfl) (by kernel_rfl) (fun k j v w w' h hs => by rw [h]; exact hs) ?turn (Below.refl _ _).drew ?steps ?fin
  case turn =>
    intro k j v w w' h hs
    refine turn_all (back_yesS l u t w8 a0 cap0 B4 q4) ?_ k j v w w' h hs
    simp only [back_yesS, List.forall_mem_cons]
    repeat (first | refine ⟨turn_any _, ?_⟩ | refine ⟨turn_at _, ?_⟩ | refine ⟨turn_from _, ?_⟩)
    simp
  case fin =>
    intro vs w hl hJ hS
    have hl0 : vs.length = 25 := hl
    obtain ⟨x0, r0, rfl, hl1⟩ := cons_of hl0
    obtain ⟨x1, r1, rfl, hl2⟩ := cons_of hl1
    obtain ⟨x2, r2, rfl, hl3⟩ := cons_of hl2
    obtain ⟨x3, r3, rfl, hl4⟩ := cons_of hl3
    obtain ⟨x4, r4, rfl, hl5⟩ := cons_of hl4
    obtain ⟨x5, r5, rfl, hl6⟩ := cons_of hl5
    obtain ⟨x6, r6, rfl, hl7⟩ := cons_of hl6
    obtain ⟨x7, r7, rfl, hl8⟩ := cons_of hl7
    obtain ⟨x8, r8, rfl, hl9⟩ := cons_of hl8
    obtain ⟨x9, r9, rfl, hl10⟩ := cons_of hl9
    obtain ⟨x10, r10, rfl, hl11⟩ := cons_of hl10
    obtain ⟨x11, r11, rfl, hl12⟩ := cons_of hl11
    obtain ⟨x12, r12, rfl, hl13⟩ := cons_of hl12
    obtain ⟨x13, r13, rfl, hl14⟩ := cons_of hl13
    obtain ⟨x14, r14, rfl, hl15⟩ := cons_of hl14
    obtain ⟨x15, r15, rfl, hl16⟩ := cons_of hl15
    obtain ⟨x16, r16, rfl, hl17⟩ := cons_of hl16
    obtain ⟨x17, r17, rfl, hl18⟩ := cons_of hl17
    obtain ⟨x18, r18, rfl, hl19⟩ := cons_of hl18
    obtain ⟨x19, r19, rfl, hl20⟩ := cons_of hl19
    obtain ⟨x20, r20, rfl, hl21⟩ := cons_of hl20
    obtain ⟨x21, r21, rfl, hl22⟩ := cons_of hl21
    obtain ⟨x22, r22, rfl, hl23⟩ := cons_of hl22
    obtain ⟨x23, r23, rfl, hl24⟩ := cons_of hl23
    obtain ⟨x24, r24, rfl, hl25⟩ := cons_of hl24
    obtain rfl := nil_of hl25
    have e8 : x24 = .bool true := hS 24 x24 rfl
    subst e8
    clear hS hl hl0 hl1 hl2 hl3 hl4 hl5 hl6 hl7 hl8 hl9 hl10 hl11 hl12 hl13 hl14 hl15 hl16 hl17 hl18 hl19 hl20 hl21 hl22 hl23 hl24 hl25
    simp only [putAll, Act.put, List.setIfInBounds_toArray, List.set_cons_zero, List.set_cons_succ]
    go_wp2_with fail
    go_ret
    exact ⟨rfl, bnext HB8.out hJ⟩
  case steps =>
    refine all_lt 25 ?_
    simp only [AllLt]
    refine ⟨?_, ?_, ?_, ?_, ?_, ?_, ?_, ?_, ?_, ?_, ?_, ?_, ?_, ?_, ?_, ?_, ?_, ?_, ?_, ?_, ?_, ?_, ?_, ?_, ?_, trivial⟩
    · refine step_pure (by kernel_rfl) fun k a w hJ hf => ?_
      have h20 : a.tmps[20]? = some (.bool true) := hf.old 20 (by kernel_rfl)
      apply op_value
      case ho => rfl
      case hw => exact (wanted_none rfl)
      case hrun => exact run_move (.inl rfl) (eval_tmp h20)
      case hS => exact rfl
      case hk => exact rfl
      case hJ => exact hJ
    · refine step_pure (by kernel_rfl) fun k a w hJ hf => ?_
      obtain ⟨v113, h113, rfl⟩ := hf.get 0 113 (by kernel_rfl) (by kernel_rfl)
      apply op_value
      case ho => rfl
      case hw => exact (wanted_none rfl)
      case hrun => exact run_un rfl (eval_tmp h113) (not_run _ _)
      case hS => exact rfl
      case hk => exact rfl
      case hJ => exact hJ
    · refine step_pure (by kernel_rfl) fun k a w hJ hf => ?_
      obtain ⟨v114, h114, rfl⟩ := hf.get 1 114 (by kernel_rfl) (by kernel_rfl)
      apply op_value
      case ho => rfl
      case hw => exact (wanted_none rfl)
      case hrun => exact run_move (.inl rfl) (eval_tmp h114)
      case hS => exact rfl
      case hk => exact rfl
      case hJ => exact hJ
    · refine step_pure (by kernel_rfl) fun k a w hJ hf => ?_
      obtain ⟨v115, h115, rfl⟩ := hf.get 2 115 (by kernel_rfl) (by kernel_rfl)
      apply op_skip
      case ho => rfl
      case hw => exact wanted_not rfl (by kernel_rfl) h115
      case hS => rfl
      case hk => exact rfl
      case hJ => exact hJ
    · refine step_pure (by kernel_rfl) fun k a w hJ hf => ?_
      obtain ⟨v115, h115, rfl⟩ := hf.get 2 115 (by kernel_rfl) (by kernel_rfl)
      apply op_skip
      case ho => rfl
      case hw => exact wanted_not rfl (by kernel_rfl) h115
      case hS => rfl
      case hk => exact rfl
      case hJ => exact hJ
    · refine step_pure (by kernel_rfl) fun k a w hJ hf => ?_
      obtain ⟨v115, h115, rfl⟩ := hf.get 2 115 (by kernel_rfl) (by kernel_rfl)
      apply op_value
      case ho => rfl
      case hw => exact (wanted_none rfl)
      case hrun => exact run_pick_f rfl (eval_tmp h115) rfl
      case hS => exact rfl
      case hk => exact rfl
      case hJ => exact hJ
    · refine step_pure (by kernel_rfl) fun k a w hJ hf => ?_
      obtain ⟨v118, h118, rfl⟩ := hf.get 5 118 (by kernel_rfl) (by kernel_rfl)
      apply op_value
      case ho => rfl
      case hw => exact (wanted_none rfl)
      case hrun => exact run_move (.inl rfl) (eval_tmp h118)
      case hS => exact rfl
      case hk => exact rfl
      case hJ => exact hJ
    · refine step_pure (by kernel_rfl) fun k a w hJ hf => ?_
      obtain ⟨v119, h119, rfl⟩ := hf.get 6 119 (by kernel_rfl) (by kernel_rfl)
      apply op_skip
      case ho => rfl
      case hw => exact wanted_not rfl (by kernel_rfl) h119
      case hS => rfl
      case hk => exact rfl
      case hJ => exact hJ
    · refine step_pure (by kernel_rfl) fun k a w hJ hf => ?_
      obtain ⟨v119, h119, rfl⟩ := hf.get 6 119 (by kernel_rfl) (by kernel_rfl)
      apply op_skip
      case ho => rfl
      case hw => exact wanted_not rfl (by kernel_rfl) h119
      case hS => rfl
      case hk => exact rfl
      case hJ => exact hJ
    · refine step_pure (by kernel_rfl) fun k a w hJ hf => ?_
      obtain ⟨v119, h119, rfl⟩ := hf.get 6 119 (by kernel_rfl) (by kernel_rfl)
      apply op_skip
      case ho => rfl
      case hw => exact wanted_not rfl (by kernel_rfl) h119
      case hS => rfl
      case hk => exact rfl
      case hJ => exact hJ
    · refine step_pure (by kernel_rfl) fun k a w hJ hf => ?_
      obtain ⟨v119, h119, rfl⟩ := hf.get 6 119 (by kernel_rfl) (by kernel_rfl)
      apply op_value
      case ho => rfl
      case hw => exact (wanted_none rfl)
      case hrun => exact run_pick_f rfl (eval_tmp h119) rfl
      case hS => exact rfl
      case hk => exact rfl
      case hJ => exact hJ
    · refine step_pure (by kernel_rfl) fun k a w hJ hf => ?_
      obtain ⟨v123, h123, rfl⟩ := hf.get 10 123 (by kernel_rfl) (by kernel_rfl)
      apply op_value
      case ho => rfl
      case hw => exact (wanted_none rfl)
      case hrun => exact run_move (.inl rfl) (eval_tmp h123)
      case hS => exact rfl
      case hk => exact rfl
      case hJ => exact hJ
    · refine step_pure (by kernel_rfl) fun k a w hJ hf => ?_
      obtain ⟨v124, h124, rfl⟩ := hf.get 11 124 (by kernel_rfl) (by kernel_rfl)
      have h20 : a.tmps[20]? = some (.bool true) := hf.old 20 (by kernel_rfl)
      apply op_value
      case ho => rfl
      case hw => exact (wanted_some rfl (by kernel_rfl) h124)
      case hrun => exact run_move (.inl rfl) (eval_tmp h20)
      case hS => exact rfl
      case hk => exact rfl
      case hJ => exact hJ
    · refine step_pure (by kernel_rfl) fun k a w hJ hf => ?_
      obtain ⟨v124, h124, rfl⟩ := hf.get 11 124 (by kernel_rfl) (by kernel_rfl)
      obtain ⟨v125, h125, rfl⟩ := hf.get 12 125 (by kernel_rfl) (by kernel_rfl)
      apply op_value
      case ho => rfl
      case hw => exact (wanted_some rfl (by kernel_rfl) h124)
      case hrun => exact run_move (.inl rfl) (eval_tmp h125)
      case hS => exact rfl
      case hk => exact rfl
      case hJ => exact hJ
    · refine step_pure (by kernel_rfl) fun k a w hJ hf => ?_
      obtain ⟨v126, h126, rfl⟩ := hf.get 13 126 (by kernel_rfl) (by kernel_rfl)
      have h18 : a.tmps[18]? = some (.int .u64 (u : Int)) := hf.old 18 (by kernel_rfl)
      apply op_value
      case ho => rfl
      case hw => exact (wanted_some rfl (by kernel_rfl) h126)
      case hrun => exact run_move (.inl rfl) (eval_tmp h18)
      case hS => exact rfl
      case hk => exact rfl
      case hJ => exact hJ
    · refine step_eff 0 (by kernel_rfl) (by kernel_rfl) (by kernel_rfl) fun a w hJ hf => ?_
      obtain ⟨v126, h126, rfl⟩ := hf.get 13 126 (by kernel_rfl) (by kernel_rfl)
      obtain ⟨v127, h127, rfl⟩ := hf.get 14 127 (by kernel_rfl) (by kernel_rfl)
      apply op_call
      case ho => rfl
      case hw => exact (wanted_some rfl (by kernel_rfl) h126)
      case hrun => exact run_call rfl (args_two rfl (eval_tmp h127)) (cf7 _ _)
      case hc => exact (codec_uint_nil u w HU.out).mono fun e w' hp => owned_step hJ hp
    · refine step_pure (by kernel_rfl) fun k a w hJ hf => ?_
      obtain ⟨v126, h126, rfl⟩ := hf.get 13 126 (by kernel_rfl) (by kernel_rfl)
      have h19 : a.tmps[19]? = some (.slice B4 t.length q4) := hf.old 19 (by kernel_rfl)
      apply op_value
      case ho => rfl
      case hw => exact (wanted_some rfl (by kernel_rfl) h126)
      case hrun => exact run_move (.inl rfl) (eval_tmp h19)
      case hS => exact rfl
      case hk => exact rfl
      case hJ => exact hJ
    · refine step_eff 1 (by kernel_rfl) (by kernel_rfl) (by kernel_rfl) fun a w hJ hf => ?_
      obtain ⟨v126, h126, rfl⟩ := hf.get 13 126 (by kernel_rfl) (by kernel_rfl)
      obtain ⟨v128, h128, s128⟩ := hf.get 15 128 (by kernel_rfl) (by kernel_rfl)
      obtain ⟨g5, c5, rfl, own5⟩ := at_get s128
      obtain ⟨v129, h129, rfl⟩ := hf.get 16 129 (by kernel_rfl) (by kernel_rfl)
      apply op_wp
      case ho => rfl
      case hw => exact (wanted_some rfl (by kernel_rfl) h126)
      case h => exact wp_append_any w (.tmp 128) (.tmp 129) 22 rfl w8.heap.size 5 i0 (.int .u8 0) 1 1 Try.underlying22 hi0 hz0 hz1 hz2 rfl (by decide) _ _ _ (eval_tmp h128) own5 w8.heap.size B4 t.length q4 (vb t) (eval_tmp h129) (T4.out.below hJ) (vb_one t) (by unfold maxLen; omega) (by omega) hJ.size (fun v' w' h2 hg _ => append_step hJ own5 h2 hg)
    · refine step_pure (by kernel_rfl) fun k a w hJ hf => ?_
      obtain ⟨v126, h126, rfl⟩ := hf.get 13 126 (by kernel_rfl) (by kernel_rfl)
      obtain ⟨v130, h130, ⟨_, A6, c6, rfl, r6⟩⟩ := hf.get 17 130 (by kernel_rfl) (by kernel_rfl)
      apply op_value
      case ho => rfl
      case hw => exact (wanted_some rfl (by kernel_rfl) h126)
      case hrun => exact run_conv rfl (eval_tmp h130) (conv_sl r6)
      case hS => exact rfl
      case hk => exact rfl
      case hJ => exact hJ
    · refine step_pure (by kernel_rfl) fun k a w hJ hf => ?_
      obtain ⟨v126, h126, rfl⟩ := hf.get 13 126 (by kernel_rfl) (by kernel_rfl)
      have h0 : a.tmps[0]? = some (.slice a0 l.length cap0) := hf.old 0 (by kernel_rfl)
      apply op_value
      case ho => rfl
      case hw => exact (wanted_some rfl (by kernel_rfl) h126)
      case hrun => exact run_move (.inl rfl) (eval_tmp h0)
      case hS => exact rfl
      case hk => exact rfl
      case hJ => exact hJ
    · refine step_pure (by kernel_rfl) fun k a w hJ hf => ?_
      obtain ⟨v126, h126, rfl⟩ := hf.get 13 126 (by kernel_rfl) (by kernel_rfl)
      obtain ⟨v132, h132, rfl⟩ := hf.get 19 132 (by kernel_rfl) (by kernel_rfl)
      apply op_value
      case ho => rfl
      case hw => exact (wanted_some rfl (by kernel_rfl) h126)
      case hrun => exact run_conv rfl (eval_tmp h132) (conv_sl (HRL.out.next hJ))
      case hS => exact rfl
      case hk => exact rfl
      case hJ => exact hJ
    · refine step_pure (by kernel_rfl) fun k a w hJ hf => ?_
      obtain ⟨v126, h126, rfl⟩ := hf.get 13 126 (by kernel_rfl) (by kernel_rfl)
      obtain ⟨v131, h131, rfl⟩ := hf.get 18 131 (by kernel_rfl) (by kernel_rfl)
      obtain ⟨v133, h133, rfl⟩ := hf.get 20 133 (by kernel_rfl) (by kernel_rfl)
      apply op_value
      case ho => rfl
      case hw => exact (wanted_some rfl (by kernel_rfl) h126)
      case hrun => exact run_bin rfl (eval_tmp h131) (eval_tmp h133) (eqg_run _ _ _ _ _) (eqs_run _)
      case hS => exact rfl
      case hk => exact rfl
      case hJ => exact hJ
    · refine step_pure (by kernel_rfl) fun k a w hJ hf => ?_
      obtain ⟨v124, h124, rfl⟩ := hf.get 11 124 (by kernel_rfl) (by kernel_rfl)
      obtain ⟨v126, h126, rfl⟩ := hf.get 13 126 (by kernel_rfl) (by kernel_rfl)
      obtain ⟨v134, h134, rfl⟩ := hf.get 21 134 (by kernel_rfl) (by kernel_rfl)
      apply op_value
      case ho => rfl
      case hw => exact (wanted_some rfl (by kernel_rfl) h124)
      case hrun => exact run_pick_t rfl (eval_tmp h126) (eval_tmp h134)
      case hS => exact rfl
      case hk => exact rfl
      case hJ => exact hJ
    · refine step_pure (by kernel_rfl) fun k a w hJ hf => ?_
      obtain ⟨v124, h124, rfl⟩ := hf.get 11 124 (by kernel_rfl) (by kernel_rfl)
      obtain ⟨v135, h135, rfl⟩ := hf.get 22 135 (by kernel_rfl) (by kernel_rfl)
      apply op_value
      case ho => rfl
      case hw => exact (wanted_none rfl)
      case hrun => exact run_pick_f rfl (eval_tmp h124) (eval_tmp h135)
      case hS => exact rfl
      case hk => exact rfl
      case hJ => exact hJ
    · refine step_pure (by kernel_rfl) fun k a w hJ hf => ?_
      obtain ⟨v136, h136, rfl⟩ := hf.get 23 136 (by kernel_rfl) (by kernel_rfl)
      apply op_value
      case ho => rfl
      case hw => exact (wanted_none rfl)
      case hrun => exact run_move (.inr rfl) (eval_tmp h136)
      case hS => exact rfl
      case hk => exact rfl
      case hJ => exact hJ
/-- what each operation of the last region leaves, by the phase -/
def back_noS (B4 : Option Addr) (q4 : Nat) : List (Nat → Value → World → Prop) :=
  [anyPhase (eqv (.bool false)),
   anyPhase (eqv (.bool true)),
   anyPhase (eqv (.bool true)),
   anyPhase (eqv (.int .u64 0)),
   anyPhase (eqv (.bool true)),
   anyPhase (eqv (.bool true)),
   anyPhase (eqv (.bool true)),
   anyPhase (eqv (.slice B4 0 q4)),
   anyPhase (eqv (.int .i64 0)),
   anyPhase (eqv (.bool true)),
   anyPhase (eqv (.bool true)),
   anyPhase (eqv (.bool true)),
   anyPhase (eqv undef),
   anyPhase (eqv undef),
   anyPhase (eqv undef),
   anyPhase (eqv undef),
   anyPhase (eqv undef),
   anyPhase (eqv undef),
   anyPhase (eqv undef),
   anyPhase (eqv undef),
   anyPhase (eqv undef),
   anyPhase (eqv undef),
   anyPhase (eqv undef),
   anyPhase (eqv (.bool true)),
   anyPhase (eqv (.bool true))]
set_option maxRecDepth 100000 in
set_option maxHeartbeats 4000000 in
theorem back_no (a0 : Option Addr) (cap0 : Nat) (l : List UInt8) (n : Nat) (m : Int) (s : ByteArray) (w0 : World) (hr : Reads w0 w0.heap.size 1 a0 l.length (vb l)) (hc : l.length ≤ cap0) (hn : n < 18446744073709551616) (hi : I64 m) (h1 : l.length ≤ 500) (h3 : s.size ≤ 500) (hno : NoDec l) :
    Calls Try.prog 5 #[.slice a0 l.length cap0, .int .u64 n, .int .i64 m, .string s] w0 (LawPost w0) := by
  have C13 : Hid (∀ w, Reads w w.heap.size 1 a0 l.length (vb l) → Calls Try.prog 13 #[.slice a0 l.length cap0] w (TP (.int .u64 0) [] false w)) := Lib.hid (fun w hr => (codec_takes.no a0 l.length cap0 l w hr hc (by omega) hno).mono fun _ _ h => tp_no h)
  clear hno
  obtain ⟨i0, hi0, hz0, hz1, hz2⟩ := info_parts info5
  have he1 := enc_len10 hn
  have he2 := enc_len10 (zig_lt hi)
  have he3 : (encT s.data.toList).length ≤ 510 := by
    have := enc_len10 (n := s.size) (by omega)
    rw [encT_len, baLen]; omega
  have HR := Lib.hid hr
  have HN := Lib.hid hn
  have HI := Lib.hid hi
  clear hn hi hr
  go_enter Try.func5, Try.ntmps5
  go_wp2_with fail
  refine (knows_any _).mono ?_
  rintro e w1 ⟨rfl, hb⟩
  have HB1 := Lib.hid hb
  clear hb
  go_wp2_with fail
  refine (codec_uint_nil n _ HN.out).mono fun e w2 hp => ?_
  obtain ⟨g1, c1, rfl, ho1, hb⟩ := uint_len hp
  have HO1 := Lib.hid ho1
  have HBu1 := Lib.hid hb
  have HBf1 := Lib.hid (bnext HB1.out hb)
  clear hp hb ho1
  go_wp2_with (at_builtin; go_must (refine wpList_append_any _ rfl (.tmp 36) (.tmp 37) 22 rfl w1.heap.size 5 i0 (.int .u8 0) 1 1 Try.underlying22 hi0 hz0 hz1 hz2 rfl (by decide) (.slice (some ⟨g1, 0, none⟩) (enc n).length c1) (enc n).length (vb (enc n)) rfl HO1.out w0.heap.size a0 l.length cap0 (vb l) rfl (HR.out.below HBf1.out) (vb_one l) (by unfold maxLen; omega) (by omega) HBu1.out.size ?_); intro v1 wa1 hown2 hg2 hat2; obtain ⟨A1, k1, hv, hk1, hr2, hbu⟩ := own_app HBu1.out HO1.out rfl hown2 hg2; subst hv; have R1 := Lib.hid hr2; have HK1 := Lib.hid hk1; have HBa1 := Lib.hid (bnext HB1.out hbu); have HU1 := Lib.hid hbu; clear hown2 hg2 hat2 hr2 hbu hk1 HO1 HBu1 HBf1)
  rw [app_len]
  refine (back_uint A1 k1 l n _ R1.out HK1.out h1 HN.out).mono ?_
  rintro e w3 ⟨B1, q1, rfl, hr2, hb⟩
  have T1 := Lib.hid hr2
  have HB3 : Hid (Below w0.heap.size w0 w3) := Lib.hid (bnext HBa1.out hb)
  have HS1 := Lib.hid (bnext HU1.out hb)
  clear hr2 hb HU1 HBa1 R1 HK1
  go_wp2_with fail
  refine (int_nil m _ HI.out).mono fun e w4 hp => ?_
  obtain ⟨g2, c2, rfl, ho2, hb⟩ := uint_len hp
  have HO2 := Lib.hid ho2
  have HBu2 := Lib.hid hb
  have HBf2 := Lib.hid (bnext HB3.out hb)
  clear hp hb ho2
  go_wp2_with (at_builtin; go_must (refine wpList_append_any _ rfl (.tmp 45) (.tmp 46) 22 rfl w3.heap.size 5 i0 (.int .u8 0) 1 1 Try.underlying22 hi0 hz0 hz1 hz2 rfl (by decide) (.slice (some ⟨g2, 0, none⟩) (enc (zig m)).length c2) (enc (zig m)).length (vb (enc (zig m))) rfl HO2.out w0.heap.size a0 l.length cap0 (vb l) rfl (HR.out.below HBf2.out) (vb_one l) (by unfold maxLen; omega) (by omega) HBu2.out.size ?_); intro v2 wa2 hown2 hg2 hat2; obtain ⟨A2, k2, hv, hk2, hr2, hbu⟩ := own_app HBu2.out HO2.out rfl hown2 hg2; subst hv; have R2 := Lib.hid hr2; have HK2 := Lib.hid hk2; have HBa2 := Lib.hid (bnext HB3.out hbu); have HU2 := Lib.hid hbu; clear hown2 hg2 hat2 hr2 hbu hk2 HO2 HBu2 HBf2)
  rw [app_len]
  refine (back_int A2 k2 l m _ R2.out HK2.out h1 HI.out).mono ?_
  rintro e w5 ⟨B2, q2, rfl, hr2, hb⟩
  have T2 := Lib.hid hr2
  have HB5 : Hid (Below w0.heap.size w0 w5) := Lib.hid (bnext HBa2.out hb)
  have HS2 := Lib.hid (bnext HU2.out hb)
  clear hr2 hb HU2 HBa2 R2 HK2
  go_wp2_with fail
  refine (text_nil s _ h3).mono fun e w6 hp => ?_
  obtain ⟨g3, c3, rfl, ho3, hb⟩ := uint_len hp
  have HO3 := Lib.hid ho3
  have HBu3 := Lib.hid hb
  have HBf3 := Lib.hid (bnext HB5.out hb)
  clear hp hb ho3
  go_wp2_with (at_builtin; go_must (refine wpList_append_any _ rfl (.tmp 54) (.tmp 55) 22 rfl w5.heap.size 5 i0 (.int .u8 0) 1 1 Try.underlying22 hi0 hz0 hz1 hz2 rfl (by decide) (.slice (some ⟨g3, 0, none⟩) (encT s.data.toList).length c3) (encT s.data.toList).length (vb (encT s.data.toList)) rfl HO3.out w0.heap.size a0 l.length cap0 (vb l) rfl (HR.out.below HBf3.out) (vb_one l) (by unfold maxLen; omega) (by omega) HBu3.out.size ?_); intro v3 wa3 hown2 hg2 hat2; obtain ⟨A3, k3, hv, hk3, hr2, hbu⟩ := own_app HBu3.out HO3.out rfl hown2 hg2; subst hv; have R3 := Lib.hid hr2; have HK3 := Lib.hid hk3; have HBa3 := Lib.hid (bnext HB5.out hbu); have HU3 := Lib.hid hbu; clear hown2 hg2 hat2 hr2 hbu hk3 HO3 HBu3 HBf3)
  rw [app_len]
  refine (back_text A3 k3 l s _ R3.out HK3.out h1 h3).mono ?_
  rintro e w7 ⟨B3, q3, rfl, hr2, hb⟩
  have T3 := Lib.hid hr2
  have HB7 : Hid (Below w0.heap.size w0 w7) := Lib.hid (bnext HBa3.out hb)
  have HS3 := Lib.hid (bnext HU3.out hb)
  clear hr2 hb HU3 HBa3 R3 HK3
  have T17 := Lib.hid ((T1.out.next HS2.out).next HS3.out)
  have T27 := Lib.hid (T2.out.next HS3.out)
  clear T1 T2 HS1 HS2 HS3 HB1 HB3 HB5
  have v1 := fun c => conv_sl (c := c) T17.out
  have v2 := fun c => conv_sl (c := c) T27.out
  have v3 := fun c => conv_sl (c := c) T3.out
  have v4 := fun c => conv_sl (c := c) (HR.out.next HB7.out)
  go_wp2_with fail
  clear v1 v2 v3 v4
  refine (C13.out _ (HR.out.next HB7.out)).mono ?_
  rintro e w8 ⟨B4, q4, rfl, r4, hb⟩
  have HB8 := Lib.hid (bnext HB7.out hb)
  clear r4 hb T17 T27 T3 HB7
  go_wp2_with fail
  refine wp_region_all (fun k j => (back_noS B4 q4).getD j (fun _ _ _ => True) k) (fun _ w => Below w8.heap.size w8 w) (fun w w' => w' = w) turn2 [] [113, 114, 115, 116, 117, 118, 119, 120, 121, 122, 123, 124, 125, 126, 127, 128, 129, 130, 131, 132, 133, 134, 135, 136, 8] mixed_ok (by kernel_rfl) (by kernel_rfl) (by kernel_rfl) (by kernel_rfl) (fun k j v w w' h hs => by rw [h]; exact hs) ?turn (Below.refl _ _).drew ?steps ?fin
  case turn =>
    intro k j v w w' h hs
    refine turn_all (back_noS B4 q4) ?_ k j v w w' h hs
    simp only [back_noS, List.forall_mem_cons]
    repeat (first | refine ⟨turn_any _, ?_⟩ | refine ⟨turn_at _, ?_⟩ | refine ⟨turn_from _, ?_⟩)
    simp
  case fin =>
    intro vs w hl hJ hS
    have hl0 : vs.length = 25 := hl
    obtain ⟨x0, r0, rfl, hl1⟩ := cons_of hl0
    obtain ⟨x1, r1, rfl, hl2⟩ := cons_of hl1
    obtain ⟨x2, r2, rfl, hl3⟩ := cons_of hl2
    obtain ⟨x3, r3, rfl, hl4⟩ := cons_of hl3
    obtain ⟨x4, r4, rfl, hl5⟩ := cons_of hl4
    obtain ⟨x5, r5, rfl, hl6⟩ := cons_of hl5
    obtain ⟨x6, r6, rfl, hl7⟩ := cons_of hl6
    obtain ⟨x7, r7, rfl, hl8⟩ := cons_of hl7
    obtain ⟨x8, r8, rfl, hl9⟩ := cons_of hl8
    obtain ⟨x9, r9, rfl, hl10⟩ := cons_of hl9
    obtain ⟨x10, r10, rfl, hl11⟩ := cons_of hl10
    obtain ⟨x11, r11, rfl, hl12⟩ := cons_of hl11
    obtain ⟨x12, r12, rfl, hl13⟩ := cons_of hl12
    obtain ⟨x13, r13, rfl, hl14⟩ := cons_of hl13
    obtain ⟨x14, r14, rfl, hl15⟩ := cons_of hl14
    obtain ⟨x15, r15, rfl, hl16⟩ := cons_of hl15
    obtain ⟨x16, r16, rfl, hl17⟩ := cons_of hl16
    obtain ⟨x17, r17, rfl, hl18⟩ := cons_of hl17
    obtain ⟨x18, r18, rfl, hl19⟩ := cons_of hl18
    obtain ⟨x19, r19, rfl, hl20⟩ := cons_of hl19
    obtain ⟨x20, r20, rfl, hl21⟩ := cons_of hl20
    obtain ⟨x21, r21, rfl, hl22⟩ := cons_of hl21
    obtain ⟨x22, r22, rfl, hl23⟩ := cons_of hl22
    obtain ⟨x23, r23, rfl, hl24⟩ := cons_of hl23
    obtain ⟨x24, r24, rfl, hl25⟩ := cons_of hl24
    obtain rfl := nil_of hl25
    have e8 : x24 = .bool true := hS 24 x24 rfl
    subst e8
    clear hS hl hl0 hl1 hl2 hl3 hl4 hl5 hl6 hl7 hl8 hl9 hl10 hl11 hl12 hl13 hl14 hl15 hl16 hl17 hl18 hl19 hl20 hl21 hl22 hl23 hl24 hl25
    simp only [putAll, Act.put, List.setIfInBounds_toArray, List.set_cons_zero, List.set_cons_succ]
    go_wp2_with fail
    go_ret
    exact ⟨rfl, bnext HB8.out hJ⟩
  case steps =>
    refine all_lt 25 ?_
    simp only [AllLt]
    refine ⟨?_, ?_, ?_, ?_, ?_, ?_, ?_, ?_, ?_, ?_, ?_, ?_, ?_, ?_, ?_, ?_, ?_, ?_, ?_, ?_, ?_, ?_, ?_, ?_, ?_, trivial⟩
    · refine step_pure (by kernel_rfl) fun k a w hJ hf => ?_
      have h20 : a.tmps[20]? = some (.bool false) := hf.old 20 (by kernel_rfl)
      apply op_value
      case ho => rfl
      case hw => exact (wanted_none rfl)
      case hrun => exact run_move (.inl rfl) (eval_tmp h20)
      case hS => exact rfl
      case hk => exact rfl
      case hJ => exact hJ
    · refine step_pure (by kernel_rfl) fun k a w hJ hf => ?_
      obtain ⟨v113, h113, rfl⟩ := hf.get 0 113 (by kernel_rfl) (by kernel_rfl)
      apply op_value
      case ho => rfl
      case hw => exact (wanted_none rfl)
      case hrun => exact run_un rfl (eval_tmp h113) (not_run _ _)
      case hS => exact rfl
      case hk => exact rfl
      case hJ => exact hJ
    · refine step_pure (by kernel_rfl) fun k a w hJ hf => ?_
      obtain ⟨v114, h114, rfl⟩ := hf.get 1 114 (by kernel_rfl) (by kernel_rfl)
      apply op_value
      case ho => rfl
      case hw => exact (wanted_none rfl)
      case hrun => exact run_move (.inl rfl) (eval_tmp h114)
      case hS => exact rfl
      case hk => exact rfl
      case hJ => exact hJ
    · refine step_pure (by kernel_rfl) fun k a w hJ hf => ?_
      obtain ⟨v115, h115, rfl⟩ := hf.get 2 115 (by kernel_rfl) (by kernel_rfl)
      have h18 : a.tmps[18]? = some (.int .u64 0) := hf.old 18 (by kernel_rfl)
      apply op_value
      case ho => rfl
      case hw => exact (wanted_some rfl (by kernel_rfl) h115)
      case hrun => exact run_move (.inl rfl) (eval_tmp h18)
      case hS => exact rfl
      case hk => exact rfl
      case hJ => exact hJ
    · refine step_pure (by kernel_rfl) fun k a w hJ hf => ?_
      obtain ⟨v115, h115, rfl⟩ := hf.get 2 115 (by kernel_rfl) (by kernel_rfl)
      obtain ⟨v116, h116, rfl⟩ := hf.get 3 116 (by kernel_rfl) (by kernel_rfl)
      apply op_value
      case ho => rfl
      case hw => exact (wanted_some rfl (by kernel_rfl) h115)
      case hrun => exact run_bin rfl (eval_tmp h116) rfl (eqgi_run _ _ _ _ _ _ _ _) (eqn_run _ _)
      case hS => exact rfl
      case hk => exact rfl
      case hJ => exact hJ
    · refine step_pure (by kernel_rfl) fun k a w hJ hf => ?_
      obtain ⟨v115, h115, rfl⟩ := hf.get 2 115 (by kernel_rfl) (by kernel_rfl)
      obtain ⟨v117, h117, rfl⟩ := hf.get 4 117 (by kernel_rfl) (by kernel_rfl)
      apply op_value
      case ho => rfl
      case hw => exact (wanted_none rfl)
      case hrun => exact run_pick_t rfl (eval_tmp h115) (eval_tmp h117)
      case hS => exact rfl
      case hk => exact rfl
      case hJ => exact hJ
    · refine step_pure (by kernel_rfl) fun k a w hJ hf => ?_
      obtain ⟨v118, h118, rfl⟩ := hf.get 5 118 (by kernel_rfl) (by kernel_rfl)
      apply op_value
      case ho => rfl
      case hw => exact (wanted_none rfl)
      case hrun => exact run_move (.inl rfl) (eval_tmp h118)
      case hS => exact rfl
      case hk => exact rfl
      case hJ => exact hJ
    · refine step_pure (by kernel_rfl) fun k a w hJ hf => ?_
      obtain ⟨v119, h119, rfl⟩ := hf.get 6 119 (by kernel_rfl) (by kernel_rfl)
      have h19 : a.tmps[19]? = some (.slice B4 0 q4) := hf.old 19 (by kernel_rfl)
      apply op_value
      case ho => rfl
      case hw => exact (wanted_some rfl (by kernel_rfl) h119)
      case hrun => exact run_move (.inl rfl) (eval_tmp h19)
      case hS => exact rfl
      case hk => exact rfl
      case hJ => exact hJ
    · refine step_pure (by kernel_rfl) fun k a w hJ hf => ?_
      obtain ⟨v119, h119, rfl⟩ := hf.get 6 119 (by kernel_rfl) (by kernel_rfl)
      obtain ⟨v120, h120, rfl⟩ := hf.get 7 120 (by kernel_rfl) (by kernel_rfl)
      apply op_value
      case ho => rfl
      case hw => exact (wanted_some rfl (by kernel_rfl) h119)
      case hrun => exact len_run rfl (eval_tmp h120)
      case hS => exact rfl
      case hk => exact rfl
      case hJ => exact hJ
    · refine step_pure (by kernel_rfl) fun k a w hJ hf => ?_
      obtain ⟨v119, h119, rfl⟩ := hf.get 6 119 (by kernel_rfl) (by kernel_rfl)
      obtain ⟨v121, h121, rfl⟩ := hf.get 8 121 (by kernel_rfl) (by kernel_rfl)
      apply op_value
      case ho => rfl
      case hw => exact (wanted_some rfl (by kernel_rfl) h119)
      case hrun => exact run_bin rfl (eval_tmp h121) rfl (eqgi_run _ _ _ _ _ _ _ _) (eqi_run _ _)
      case hS => exact rfl
      case hk => exact rfl
      case hJ => exact hJ
    · refine step_pure (by kernel_rfl) fun k a w hJ hf => ?_
      obtain ⟨v119, h119, rfl⟩ := hf.get 6 119 (by kernel_rfl) (by kernel_rfl)
      obtain ⟨v122, h122, rfl⟩ := hf.get 9 122 (by kernel_rfl) (by kernel_rfl)
      apply op_value
      case ho => rfl
      case hw => exact (wanted_none rfl)
      case hrun => exact run_pick_t rfl (eval_tmp h119) (eval_tmp h122)
      case hS => exact rfl
      case hk => exact rfl
      case hJ => exact hJ
    · refine step_pure (by kernel_rfl) fun k a w hJ hf => ?_
      obtain ⟨v123, h123, rfl⟩ := hf.get 10 123 (by kernel_rfl) (by kernel_rfl)
      apply op_value
      case ho => rfl
      case hw => exact (wanted_none rfl)
      case hrun => exact run_move (.inl rfl) (eval_tmp h123)
      case hS => exact rfl
      case hk => exact rfl
      case hJ => exact hJ
    · refine step_pure (by kernel_rfl) fun k a w hJ hf => ?_
      obtain ⟨v124, h124, rfl⟩ := hf.get 11 124 (by kernel_rfl) (by kernel_rfl)
      apply op_skip
      case ho => rfl
      case hw => exact wanted_not rfl (by kernel_rfl) h124
      case hS => rfl
      case hk => exact rfl
      case hJ => exact hJ
    · refine step_pure (by kernel_rfl) fun k a w hJ hf => ?_
      obtain ⟨v124, h124, rfl⟩ := hf.get 11 124 (by kernel_rfl) (by kernel_rfl)
      apply op_skip
      case ho => rfl
      case hw => exact wanted_not rfl (by kernel_rfl) h124
      case hS => rfl
      case hk => exact rfl
      case hJ => exact hJ
    · refine step_pure (by kernel_rfl) fun k a w hJ hf => ?_
      obtain ⟨v126, h126, rfl⟩ := hf.get 13 126 (by kernel_rfl) (by kernel_rfl)
      apply op_skip
      case ho => rfl
      case hw => exact wanted_undef rfl (by kernel_rfl) h126
      case hS => rfl
      case hk => exact rfl
      case hJ => exact hJ
    · refine step_pure (by kernel_rfl) fun k a w hJ hf => ?_
      obtain ⟨v126, h126, rfl⟩ := hf.get 13 126 (by kernel_rfl) (by kernel_rfl)
      apply op_skip
      case ho => rfl
      case hw => exact wanted_undef rfl (by kernel_rfl) h126
      case hS => rfl
      case hk => exact rfl
      case hJ => exact hJ
    · refine step_pure (by kernel_rfl) fun k a w hJ hf => ?_
      obtain ⟨v126, h126, rfl⟩ := hf.get 13 126 (by kernel_rfl) (by kernel_rfl)
      apply op_skip
      case ho => rfl
      case hw => exact wanted_undef rfl (by kernel_rfl) h126
      case hS => rfl
      case hk => exact rfl
      case hJ => exact hJ
    · refine step_pure (by kernel_rfl) fun k a w hJ hf => ?_
      obtain ⟨v126, h126, rfl⟩ := hf.get 13 126 (by kernel_rfl) (by kernel_rfl)
      apply op_skip
      case ho => rfl
      case hw => exact wanted_undef rfl (by kernel_rfl) h126
      case hS => rfl
      case hk => exact rfl
      case hJ => exact hJ
    · refine step_pure (by kernel_rfl) fun k a w hJ hf => ?_
      obtain ⟨v126, h126, rfl⟩ := hf.get 13 126 (by kernel_rfl) (by kernel_rfl)
      apply op_skip
      case ho => rfl
      case hw => exact wanted_undef rfl (by kernel_rfl) h126
      case hS => rfl
      case hk => exact rfl
      case hJ => exact hJ
    · refine step_pure (by kernel_rfl) fun k a w hJ hf => ?_
      obtain ⟨v126, h126, rfl⟩ := hf.get 13 126 (by kernel_rfl) (by kernel_rfl)
      apply op_skip
      case ho => rfl
      case hw => exact wanted_undef rfl (by kernel_rfl) h126
      case hS => rfl
      case hk => exact rfl
      case hJ => exact hJ
    · refine step_pure (by kernel_rfl) fun k a w hJ hf => ?_
      obtain ⟨v126, h126, rfl⟩ := hf.get 13 126 (by kernel_rfl) (by kernel_rfl)
      apply op_skip
      case ho => rfl
      case hw => exact wanted_undef rfl (by kernel_rfl) h126
      case hS => rfl
      case hk => exact rfl
      case hJ => exact hJ
    · refine step_pure (by kernel_rfl) fun k a w hJ hf => ?_
      obtain ⟨v126, h126, rfl⟩ := hf.get 13 126 (by kernel_rfl) (by kernel_rfl)
      apply op_skip
      case ho => rfl
      case hw => exact wanted_undef rfl (by kernel_rfl) h126
      case hS => rfl
      case hk => exact rfl
      case hJ => exact hJ
    · refine step_pure (by kernel_rfl) fun k a w hJ hf => ?_
      obtain ⟨v124, h124, rfl⟩ := hf.get 11 124 (by kernel_rfl) (by kernel_rfl)
      apply op_skip
      case ho => rfl
      case hw => exact wanted_not rfl (by kernel_rfl) h124
      case hS => rfl
      case hk => exact rfl
      case hJ => exact hJ
    · refine step_pure (by kernel_rfl) fun k a w hJ hf => ?_
      obtain ⟨v124, h124, rfl⟩ := hf.get 11 124 (by kernel_rfl) (by kernel_rfl)
      apply op_value
      case ho => rfl
      case hw => exact (wanted_none rfl)
      case hrun => exact run_pick_t rfl (eval_tmp h124) rfl
      case hS => exact rfl
      case hk => exact rfl
      case hJ => exact hJ
    · refine step_pure (by kernel_rfl) fun k a w hJ hf => ?_
      obtain ⟨v136, h136, rfl⟩ := hf.get 23 136 (by kernel_rfl) (by kernel_rfl)
      apply op_value
      case ho => rfl
      case hw => exact (wanted_none rfl)
      case hrun => exact run_move (.inr rfl) (eval_tmp h136)
      case hS => exact rfl
      case hk => exact rfl
      case hJ => exact hJ
end Go.Proofs.Ytnhpkkmjicphgaa
