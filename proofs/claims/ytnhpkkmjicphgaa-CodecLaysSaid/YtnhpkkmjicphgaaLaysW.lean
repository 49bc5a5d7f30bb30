/- CodecLays: the region that compares, walked op by op. Conditions: at most 500 bytes each. -/
import Derived.Test.YtnhpkkmjicphgaaKnows
import Derived.Test.YtnhpkkmjicphgaaShared
import Derived.Test.YtnhpkkmjicphgaaRefTake
namespace Go.Proofs.Ytnhpkkmjicphgaa
open Go.RowKit
/-- what each operation of the last region leaves -/
def laysS (a0 : Option Addr) (len0 cap0 : Nat) (l : List UInt8) (n : Nat) (a2 : Int) (a3 : ByteArray) : List (Value → World → Prop) :=
  [eqv (.slice a0 len0 cap0),
   eqv (.int .u64 (n : Int)),
   sl (l ++ enc n),
   eqv (.string ⟨(l ++ enc n).toArray⟩),
   eqv (.slice a0 len0 cap0),
   eqv (.int .u64 (n : Int)),
   sl (l ++ enc n),
   eqv (.string ⟨(l ++ enc n).toArray⟩),
   eqv (.bool true),
   eqv (.bool true),
   eqv (.slice a0 len0 cap0),
   eqv (.int .i64 a2),
   sl (l ++ enc (zig a2)),
   eqv (.string ⟨(l ++ enc (zig a2)).toArray⟩),
   eqv (.slice a0 len0 cap0),
   eqv (.int .i64 a2),
   sl (l ++ enc (zig a2)),
   eqv (.string ⟨(l ++ enc (zig a2)).toArray⟩),
   eqv (.bool true),
   eqv (.bool true),
   eqv (.bool true),
   eqv (.slice a0 len0 cap0),
   eqv (.string a3),
   sl (l ++ encT a3.data.toList),
   eqv (.string ⟨(l ++ encT a3.data.toList).toArray⟩),
   eqv (.slice a0 len0 cap0),
   eqv (.string a3),
   sl (l ++ encT a3.data.toList),
   eqv (.string ⟨(l ++ encT a3.data.toList).toArray⟩),
   eqv (.bool true),
   eqv (.bool true),
   eqv (.bool true),
   eqv (.bool true),
   eqv (.bool true),
   eqv (.bool true)]
theorem laysS_keep {a0 : Option Addr} {len0 cap0 : Nat} {l : List UInt8} {n : Nat} {a2 : Int} {a3 : ByteArray} (j : Nat) (v : Value) (w w' : World) (h : Below w.heap.size w w') (hs : (laysS a0 len0 cap0 l n a2 a3).getD j (fun _ _ => True) v w) :
    (laysS a0 len0 cap0 l n a2 a3).getD j (fun _ _ => True) v w' := by
  refine keep_all (laysS a0 len0 cap0 l n a2 a3) ?_ j v w w' h hs
  simp only [laysS, List.forall_mem_cons]
  repeat (first | refine ⟨keep_eqv _, ?_⟩ | refine ⟨keep_sl _, ?_⟩)
  simp

set_option maxHeartbeats 1000000 in
theorem lays_long (a0 : Option Addr) (len0 cap0 : Nat) (a1 a2 : Int) (a3 : ByteArray) (w : World) (h : 500 < len0 ∨ 500 < a3.size) :
    Calls Try.prog 3 #[.slice a0 len0 cap0, .int .u64 a1, .int .i64 a2, .string a3] w (LawPost w) := by
  rcases Nat.lt_or_ge 500 len0 with h1 | h1
  · go_enter Try.func3, Try.ntmps3
    go_wp2_with (go_at_call 6; refine (knows_any _).mono ?_; rintro e w1 ⟨rfl, hb1⟩)
    go_ret
    exact ⟨rfl, hb1⟩
  · have h2 : 500 < a3.size := by omega
    go_enter Try.func3, Try.ntmps3
    go_wp2_with (go_at_call 6; refine (knows_any _).mono ?_; rintro e w1 ⟨rfl, hb1⟩)
    go_ret
    exact ⟨rfl, hb1⟩
set_option maxRecDepth 100000 in
set_option maxHeartbeats 2000000 in
theorem lays_short (a0 : Option Addr) (len0 cap0 : Nat) (l : List UInt8) (n : Nat) (a2 : Int) (a3 : ByteArray) (w0 : World) (hr : Reads w0 w0.heap.size 1 a0 len0 (vb l)) (hn : n < 18446744073709551616) (hi : I64 a2) (h1 : len0 ≤ 500) (h3 : a3.size ≤ 500) :
    Calls Try.prog 3 #[.slice a0 len0 cap0, .int .u64 n, .int .i64 a2, .string a3] w0 (LawPost w0) := by
  have HR := Lib.hid hr
  have HN := Lib.hid hn
  have HI := Lib.hid hi
  clear hr hn hi
  go_enter Try.func3, Try.ntmps3
  go_wp2_with fail
  have hr := HR.out
  have hn := HN.out
  have hi := HI.out
  refine wp_region_all (fun _ j => (laysS a0 len0 cap0 l n a2 a3).getD j (fun _ _ => True)) (fun _ w => Below w0.heap.size w0 w) (fun w w' => Below w.heap.size w w') (fun _ w w' => Below w.heap.size w w') [] [18, 19, 20, 21, 22, 23, 24, 25, 26, 27, 28, 29, 30, 31, 32, 33, 34, 35, 36, 37, 38, 39, 40, 41, 42, 43, 44, 45, 46, 47, 48, 49, 50, 51, 8] mixed_ok (by kernel_rfl) (by kernel_rfl) (by kernel_rfl) (by kernel_rfl) (fun _ => laysS_keep) (fun _ => laysS_keep) (Below.refl _ _).drew ?steps ?fin
  case fin =>
    intro vs w hl hJ hS
    have hl0 : vs.length = 35 := hl
    obtain ⟨x0, r0, rfl, hl1⟩ := cons_of hl0
    obtain ⟨x1, r1, rfl, hl2⟩ := cons_of hl1
    obtain ⟨x2, r2, rfl, hl3⟩ := cons_of hl2
    obtain ⟨x3, r3, rfl, hl4⟩ := cons_of hl3
    obtain ⟨x4, r4, rfl, hl5⟩ := cons_of hl4
    obtain ⟨x5, r5, rfl, hl6⟩ := cons_of hl5
    obtain ⟨x6, r6, rfl, hl7⟩ := cons_of hl6
    obtain ⟨x7, r7, rfl, hl8⟩ := cons_of hl7
    obtain ⟨x8, r8, rfl, hl9⟩ := cons_of hl8
    obtain ⟨x9, r9, rfl, hl10⟩ := cons_of hl9
    obtain ⟨x10, r10, rfl, hl11⟩ := cons_of hl10
    obtain ⟨x11, r11, rfl, hl12⟩ := cons_of hl11
    obtain ⟨x12, r12, rfl, hl13⟩ := cons_of hl12
    obtain ⟨x13, r13, rfl, hl14⟩ := cons_of hl13
    obtain ⟨x14, r14, rfl, hl15⟩ := cons_of hl14
    obtain ⟨x15, r15, rfl, hl16⟩ := cons_of hl15
    obtain ⟨x16, r16, rfl, hl17⟩ := cons_of hl16
    obtain ⟨x17, r17, rfl, hl18⟩ := cons_of hl17
    obtain ⟨x18, r18, rfl, hl19⟩ := cons_of hl18
    obtain ⟨x19, r19, rfl, hl20⟩ := cons_of hl19
    obtain ⟨x20, r20, rfl, hl21⟩ := cons_of hl20
    obtain ⟨x21, r21, rfl, hl22⟩ := cons_of hl21
    obtain ⟨x22, r22, rfl, hl23⟩ := cons_of hl22
    obtain ⟨x23, r23, rfl, hl24⟩ := cons_of hl23
    obtain ⟨x24, r24, rfl, hl25⟩ := cons_of hl24
    obtain ⟨x25, r25, rfl, hl26⟩ := cons_of hl25
    obtain ⟨x26, r26, rfl, hl27⟩ := cons_of hl26
    obtain ⟨x27, r27, rfl, hl28⟩ := cons_of hl27
    obtain ⟨x28, r28, rfl, hl29⟩ := cons_of hl28
    obtain ⟨x29, r29, rfl, hl30⟩ := cons_of hl29
    obtain ⟨x30, r30, rfl, hl31⟩ := cons_of hl30
    obtain ⟨x31, r31, rfl, hl32⟩ := cons_of hl31
    obtain ⟨x32, r32, rfl, hl33⟩ := cons_of hl32
    obtain ⟨x33, r33, rfl, hl34⟩ := cons_of hl33
    obtain ⟨x34, r34, rfl, hl35⟩ := cons_of hl34
    obtain rfl := nil_of hl35
    have e8 : x34 = .bool true := hS 34 x34 rfl
    subst e8
    clear hS hl hr hn hi hl0 hl1 hl2 hl3 hl4 hl5 hl6 hl7 hl8 hl9 hl10 hl11 hl12 hl13 hl14 hl15 hl16 hl17 hl18 hl19 hl20 hl21 hl22 hl23 hl24 hl25 hl26 hl27 hl28 hl29 hl30 hl31 hl32 hl33 hl34 hl35
    simp only [putAll, Act.put, List.setIfInBounds_toArray, List.set_cons_zero, List.set_cons_succ]
    go_wp2_with fail
    go_ret
    exact ⟨rfl, hJ⟩
  case steps =>
    refine all_lt 35 ?_
    simp only [AllLt]
    refine ⟨?_, ?_, ?_, ?_, ?_, ?_, ?_, ?_, ?_, ?_, ?_, ?_, ?_, ?_, ?_, ?_, ?_, ?_, ?_, ?_, ?_, ?_, ?_, ?_, ?_, ?_, ?_, ?_, ?_, ?_, ?_, ?_, ?_, ?_, ?_, trivial⟩
    · refine step_pure (by kernel_rfl) fun k a w hJ hf => ?_
      have h0 : a.tmps[0]? = some (.slice a0 len0 cap0) := hf.old 0 (by kernel_rfl)
      apply op_value
      case ho => rfl
      case hw => exact (wanted_none rfl)
      case hrun => exact run_move (.inl rfl) (eval_tmp h0)
      case hS => exact rfl
      case hk => exact keep_refl _
      case hJ => exact hJ
    · refine step_pure (by kernel_rfl) fun k a w hJ hf => ?_
      have h1 : a.tmps[1]? = some (.int .u64 (n : Int)) := hf.old 1 (by kernel_rfl)
      apply op_value
      case ho => rfl
      case hw => exact (wanted_none rfl)
      case hrun => exact run_move (.inl rfl) (eval_tmp h1)
      case hS => exact rfl
      case hk => exact keep_refl _
      case hJ => exact hJ
    · refine step_pure (by kernel_rfl) fun k a w hJ hf => ?_
      obtain ⟨v18, h18, rfl⟩ := hf.get 0 18 (by kernel_rfl) (by kernel_rfl)
      obtain ⟨v19, h19, rfl⟩ := hf.get 1 19 (by kernel_rfl) (by kernel_rfl)
      apply op_call
      case ho => rfl
      case hw => exact (wanted_none rfl)
      case hrun => exact run_call rfl (args_two (eval_tmp h18) (eval_tmp h19)) (cf7 _ _)
      case hc => exact (codec_uint a0 len0 cap0 l n w (Reads.next hr hJ) (by omega) hn).mono fun e w' hp => post_step hJ hp
    · refine step_pure (by kernel_rfl) fun k a w hJ hf => ?_
      obtain ⟨v20, h20, ⟨A20, c20, rfl, r20⟩⟩ := hf.get 2 20 (by kernel_rfl) (by kernel_rfl)
      apply op_value
      case ho => rfl
      case hw => exact (wanted_none rfl)
      case hrun => exact run_conv rfl (eval_tmp h20) (conv_sl r20)
      case hS => exact rfl
      case hk => exact keep_refl _
      case hJ => exact hJ
    · refine step_pure (by kernel_rfl) fun k a w hJ hf => ?_
      have h0 : a.tmps[0]? = some (.slice a0 len0 cap0) := hf.old 0 (by kernel_rfl)
      apply op_value
      case ho => rfl
      case hw => exact (wanted_none rfl)
      case hrun => exact run_move (.inl rfl) (eval_tmp h0)
      case hS => exact rfl
      case hk => exact keep_refl _
      case hJ => exact hJ
    · refine step_pure (by kernel_rfl) fun k a w hJ hf => ?_
      have h1 : a.tmps[1]? = some (.int .u64 (n : Int)) := hf.old 1 (by kernel_rfl)
      apply op_value
      case ho => rfl
      case hw => exact (wanted_none rfl)
      case hrun => exact run_move (.inl rfl) (eval_tmp h1)
      case hS => exact rfl
      case hk => exact keep_refl _
      case hJ => exact hJ
    · refine step_pure (by kernel_rfl) fun k a w hJ hf => ?_
      obtain ⟨v22, h22, rfl⟩ := hf.get 4 22 (by kernel_rfl) (by kernel_rfl)
      obtain ⟨v23, h23, rfl⟩ := hf.get 5 23 (by kernel_rfl) (by kernel_rfl)
      apply op_call
      case ho => rfl
      case hw => exact (wanted_none rfl)
      case hrun => exact run_call rfl (args_two (eval_tmp h22) (eval_tmp h23)) (cf8 _ _)
      case hc => exact (ref_uint a0 len0 cap0 l n w (Reads.next hr hJ) (by omega) hn).mono fun e w' hp => post_step hJ hp
    · refine step_pure (by kernel_rfl) fun k a w hJ hf => ?_
      obtain ⟨v24, h24, ⟨A24, c24, rfl, r24⟩⟩ := hf.get 6 24 (by kernel_rfl) (by kernel_rfl)
      apply op_value
      case ho => rfl
      case hw => exact (wanted_none rfl)
      case hrun => exact run_conv rfl (eval_tmp h24) (conv_sl r24)
      case hS => exact rfl
      case hk => exact keep_refl _
      case hJ => exact hJ
    · refine step_pure (by kernel_rfl) fun k a w hJ hf => ?_
      obtain ⟨v21, h21, rfl⟩ := hf.get 3 21 (by kernel_rfl) (by kernel_rfl)
      obtain ⟨v25, h25, rfl⟩ := hf.get 7 25 (by kernel_rfl) (by kernel_rfl)
      apply op_value
      case ho => rfl
      case hw => exact (wanted_none rfl)
      case hrun => exact run_bin rfl (eval_tmp h21) (eval_tmp h25) (eqg_run _ _ _ _ _) (eqs_run _)
      case hS => exact rfl
      case hk => exact keep_refl _
      case hJ => exact hJ
    · refine step_pure (by kernel_rfl) fun k a w hJ hf => ?_
      obtain ⟨v26, h26, rfl⟩ := hf.get 8 26 (by kernel_rfl) (by kernel_rfl)
      apply op_value
      case ho => rfl
      case hw => exact (wanted_none rfl)
      case hrun => exact run_move (.inl rfl) (eval_tmp h26)
      case hS => exact rfl
      case hk => exact keep_refl _
      case hJ => exact hJ
    · refine step_pure (by kernel_rfl) fun k a w hJ hf => ?_
      obtain ⟨v27, h27, rfl⟩ := hf.get 9 27 (by kernel_rfl) (by kernel_rfl)
      have h0 : a.tmps[0]? = some (.slice a0 len0 cap0) := hf.old 0 (by kernel_rfl)
      apply op_value
      case ho => rfl
      case hw => exact (wanted_some rfl (by kernel_rfl) h27)
      case hrun => exact run_move (.inl rfl) (eval_tmp h0)
      case hS => exact rfl
      case hk => exact keep_refl _
      case hJ => exact hJ
    · refine step_pure (by kernel_rfl) fun k a w hJ hf => ?_
      obtain ⟨v27, h27, rfl⟩ := hf.get 9 27 (by kernel_rfl) (by kernel_rfl)
      have h2 : a.tmps[2]? = some (.int .i64 a2) := hf.old 2 (by kernel_rfl)
      apply op_value
      case ho => rfl
      case hw => exact (wanted_some rfl (by kernel_rfl) h27)
      case hrun => exact run_move (.inl rfl) (eval_tmp h2)
      case hS => exact rfl
      case hk => exact keep_refl _
      case hJ => exact hJ
    · refine step_pure (by kernel_rfl) fun k a w hJ hf => ?_
      obtain ⟨v27, h27, rfl⟩ := hf.get 9 27 (by kernel_rfl) (by kernel_rfl)
      obtain ⟨v28, h28, rfl⟩ := hf.get 10 28 (by kernel_rfl) (by kernel_rfl)
      obtain ⟨v29, h29, rfl⟩ := hf.get 11 29 (by kernel_rfl) (by kernel_rfl)
      apply op_call
      case ho => rfl
      case hw => exact (wanted_some rfl (by kernel_rfl) h27)
      case hrun => exact run_call rfl (args_two (eval_tmp h28) (eval_tmp h29)) (cf9 _ _)
      case hc => exact (codec_int a0 len0 cap0 l a2 w (Reads.next hr hJ) (by omega) hi).mono fun e w' hp => post_step hJ hp
    · refine step_pure (by kernel_rfl) fun k a w hJ hf => ?_
      obtain ⟨v27, h27, rfl⟩ := hf.get 9 27 (by kernel_rfl) (by kernel_rfl)
      obtain ⟨v30, h30, ⟨A30, c30, rfl, r30⟩⟩ := hf.get 12 30 (by kernel_rfl) (by kernel_rfl)
      apply op_value
      case ho => rfl
      case hw => exact (wanted_some rfl (by kernel_rfl) h27)
      case hrun => exact run_conv rfl (eval_tmp h30) (conv_sl r30)
      case hS => exact rfl
      case hk => exact keep_refl _
      case hJ => exact hJ
    · refine step_pure (by kernel_rfl) fun k a w hJ hf => ?_
      obtain ⟨v27, h27, rfl⟩ := hf.get 9 27 (by kernel_rfl) (by kernel_rfl)
      have h0 : a.tmps[0]? = some (.slice a0 len0 cap0) := hf.old 0 (by kernel_rfl)
      apply op_value
      case ho => rfl
      case hw => exact (wanted_some rfl (by kernel_rfl) h27)
      case hrun => exact run_move (.inl rfl) (eval_tmp h0)
      case hS => exact rfl
      case hk => exact keep_refl _
      case hJ => exact hJ
    · refine step_pure (by kernel_rfl) fun k a w hJ hf => ?_
      obtain ⟨v27, h27, rfl⟩ := hf.get 9 27 (by kernel_rfl) (by kernel_rfl)
      have h2 : a.tmps[2]? = some (.int .i64 a2) := hf.old 2 (by kernel_rfl)
      apply op_value
      case ho => rfl
      case hw => exact (wanted_some rfl (by kernel_rfl) h27)
      case hrun => exact run_move (.inl rfl) (eval_tmp h2)
      case hS => exact rfl
      case hk => exact keep_refl _
      case hJ => exact hJ
    · refine step_pure (by kernel_rfl) fun k a w hJ hf => ?_
      obtain ⟨v27, h27, rfl⟩ := hf.get 9 27 (by kernel_rfl) (by kernel_rfl)
      obtain ⟨v32, h32, rfl⟩ := hf.get 14 32 (by kernel_rfl) (by kernel_rfl)
      obtain ⟨v33, h33, rfl⟩ := hf.get 15 33 (by kernel_rfl) (by kernel_rfl)
      apply op_call
      case ho => rfl
      case hw => exact (wanted_some rfl (by kernel_rfl) h27)
      case hrun => exact run_call rfl (args_two (eval_tmp h32) (eval_tmp h33)) (cf10 _ _)
      case hc => exact (ref_int a0 len0 cap0 l a2 w (Reads.next hr hJ) (by omega) hi).mono fun e w' hp => post_step hJ hp
    · refine step_pure (by kernel_rfl) fun k a w hJ hf => ?_
      obtain ⟨v27, h27, rfl⟩ := hf.get 9 27 (by kernel_rfl) (by kernel_rfl)
      obtain ⟨v34, h34, ⟨A34, c34, rfl, r34⟩⟩ := hf.get 16 34 (by kernel_rfl) (by kernel_rfl)
      apply op_value
      case ho => rfl
      case hw => exact (wanted_some rfl (by kernel_rfl) h27)
      case hrun => exact run_conv rfl (eval_tmp h34) (conv_sl r34)
      case hS => exact rfl
      case hk => exact keep_refl _
      case hJ => exact hJ
    · refine step_pure (by kernel_rfl) fun k a w hJ hf => ?_
      obtain ⟨v27, h27, rfl⟩ := hf.get 9 27 (by kernel_rfl) (by kernel_rfl)
      obtain ⟨v31, h31, rfl⟩ := hf.get 13 31 (by kernel_rfl) (by kernel_rfl)
      obtain ⟨v35, h35, rfl⟩ := hf.get 17 35 (by kernel_rfl) (by kernel_rfl)
      apply op_value
      case ho => rfl
      case hw => exact (wanted_some rfl (by kernel_rfl) h27)
      case hrun => exact run_bin rfl (eval_tmp h31) (eval_tmp h35) (eqg_run _ _ _ _ _) (eqs_run _)
      case hS => exact rfl
      case hk => exact keep_refl _
      case hJ => exact hJ
    · refine step_pure (by kernel_rfl) fun k a w hJ hf => ?_
      obtain ⟨v27, h27, rfl⟩ := hf.get 9 27 (by kernel_rfl) (by kernel_rfl)
      obtain ⟨v36, h36, rfl⟩ := hf.get 18 36 (by kernel_rfl) (by kernel_rfl)
      apply op_value
      case ho => rfl
      case hw => exact (wanted_none rfl)
      case hrun => exact run_pick_t rfl (eval_tmp h27) (eval_tmp h36)
      case hS => exact rfl
      case hk => exact keep_refl _
      case hJ => exact hJ
    · refine step_pure (by kernel_rfl) fun k a w hJ hf => ?_
      obtain ⟨v37, h37, rfl⟩ := hf.get 19 37 (by kernel_rfl) (by kernel_rfl)
      apply op_value
      case ho => rfl
      case hw => exact (wanted_none rfl)
      case hrun => exact run_move (.inl rfl) (eval_tmp h37)
      case hS => exact rfl
      case hk => exact keep_refl _
      case hJ => exact hJ
    · refine step_pure (by kernel_rfl) fun k a w hJ hf => ?_
      obtain ⟨v38, h38, rfl⟩ := hf.get 20 38 (by kernel_rfl) (by kernel_rfl)
      have h0 : a.tmps[0]? = some (.slice a0 len0 cap0) := hf.old 0 (by kernel_rfl)
      apply op_value
      case ho => rfl
      case hw => exact (wanted_some rfl (by kernel_rfl) h38)
      case hrun => exact run_move (.inl rfl) (eval_tmp h0)
      case hS => exact rfl
      case hk => exact keep_refl _
      case hJ => exact hJ
    · refine step_pure (by kernel_rfl) fun k a w hJ hf => ?_
      obtain ⟨v38, h38, rfl⟩ := hf.get 20 38 (by kernel_rfl) (by kernel_rfl)
      have h3 : a.tmps[3]? = some (.string a3) := hf.old 3 (by kernel_rfl)
      apply op_value
      case ho => rfl
      case hw => exact (wanted_some rfl (by kernel_rfl) h38)
      case hrun => exact run_move (.inl rfl) (eval_tmp h3)
      case hS => exact rfl
      case hk => exact keep_refl _
      case hJ => exact hJ
    · refine step_pure (by kernel_rfl) fun k a w hJ hf => ?_
      obtain ⟨v38, h38, rfl⟩ := hf.get 20 38 (by kernel_rfl) (by kernel_rfl)
      obtain ⟨v39, h39, rfl⟩ := hf.get 21 39 (by kernel_rfl) (by kernel_rfl)
      obtain ⟨v40, h40, rfl⟩ := hf.get 22 40 (by kernel_rfl) (by kernel_rfl)
      apply op_call
      case ho => rfl
      case hw => exact (wanted_some rfl (by kernel_rfl) h38)
      case hrun => exact run_call rfl (args_two (eval_tmp h39) (eval_tmp h40)) (cf11 _ _)
      case hc => exact (codec_text a0 len0 cap0 l a3 w (Reads.next hr hJ) (by omega) (by omega)).mono fun e w' hp => post_step hJ hp
    · refine step_pure (by kernel_rfl) fun k a w hJ hf => ?_
      obtain ⟨v38, h38, rfl⟩ := hf.get 20 38 (by kernel_rfl) (by kernel_rfl)
      obtain ⟨v41, h41, ⟨A41, c41, rfl, r41⟩⟩ := hf.get 23 41 (by kernel_rfl) (by kernel_rfl)
      apply op_value
      case ho => rfl
      case hw => exact (wanted_some rfl (by kernel_rfl) h38)
      case hrun => exact run_conv rfl (eval_tmp h41) (conv_sl r41)
      case hS => exact rfl
      case hk => exact keep_refl _
      case hJ => exact hJ
    · refine step_pure (by kernel_rfl) fun k a w hJ hf => ?_
      obtain ⟨v38, h38, rfl⟩ := hf.get 20 38 (by kernel_rfl) (by kernel_rfl)
      have h0 : a.tmps[0]? = some (.slice a0 len0 cap0) := hf.old 0 (by kernel_rfl)
      apply op_value
      case ho => rfl
      case hw => exact (wanted_some rfl (by kernel_rfl) h38)
      case hrun => exact run_move (.inl rfl) (eval_tmp h0)
      case hS => exact rfl
      case hk => exact keep_refl _
      case hJ => exact hJ
    · refine step_pure (by kernel_rfl) fun k a w hJ hf => ?_
      obtain ⟨v38, h38, rfl⟩ := hf.get 20 38 (by kernel_rfl) (by kernel_rfl)
      have h3 : a.tmps[3]? = some (.string a3) := hf.old 3 (by kernel_rfl)
      apply op_value
      case ho => rfl
      case hw => exact (wanted_some rfl (by kernel_rfl) h38)
      case hrun => exact run_move (.inl rfl) (eval_tmp h3)
      case hS => exact rfl
      case hk => exact keep_refl _
      case hJ => exact hJ
    · refine step_pure (by kernel_rfl) fun k a w hJ hf => ?_
      obtain ⟨v38, h38, rfl⟩ := hf.get 20 38 (by kernel_rfl) (by kernel_rfl)
      obtain ⟨v43, h43, rfl⟩ := hf.get 25 43 (by kernel_rfl) (by kernel_rfl)
      obtain ⟨v44, h44, rfl⟩ := hf.get 26 44 (by kernel_rfl) (by kernel_rfl)
      apply op_call
      case ho => rfl
      case hw => exact (wanted_some rfl (by kernel_rfl) h38)
      case hrun => exact run_call rfl (args_two (eval_tmp h43) (eval_tmp h44)) (cf12 _ _)
      case hc => exact (ref_text a0 len0 cap0 l a3 w (Reads.next hr hJ) (by omega) (by omega)).mono fun e w' hp => post_step hJ hp
    · refine step_pure (by kernel_rfl) fun k a w hJ hf => ?_
      obtain ⟨v38, h38, rfl⟩ := hf.get 20 38 (by kernel_rfl) (by kernel_rfl)
      obtain ⟨v45, h45, ⟨A45, c45, rfl, r45⟩⟩ := hf.get 27 45 (by kernel_rfl) (by kernel_rfl)
      apply op_value
      case ho => rfl
      case hw => exact (wanted_some rfl (by kernel_rfl) h38)
      case hrun => exact run_conv rfl (eval_tmp h45) (conv_sl r45)
      case hS => exact rfl
      case hk => exact keep_refl _
      case hJ => exact hJ
    · refine step_pure (by kernel_rfl) fun k a w hJ hf => ?_
      obtain ⟨v38, h38, rfl⟩ := hf.get 20 38 (by kernel_rfl) (by kernel_rfl)
      obtain ⟨v42, h42, rfl⟩ := hf.get 24 42 (by kernel_rfl) (by kernel_rfl)
      obtain ⟨v46, h46, rfl⟩ := hf.get 28 46 (by kernel_rfl) (by kernel_rfl)
      apply op_value
      case ho => rfl
      case hw => exact (wanted_some rfl (by kernel_rfl) h38)
      case hrun => exact run_bin rfl (eval_tmp h42) (eval_tmp h46) (eqg_run _ _ _ _ _) (eqs_run _)
      case hS => exact rfl
      case hk => exact keep_refl _
      case hJ => exact hJ
    · refine step_pure (by kernel_rfl) fun k a w hJ hf => ?_
      obtain ⟨v38, h38, rfl⟩ := hf.get 20 38 (by kernel_rfl) (by kernel_rfl)
      obtain ⟨v47, h47, rfl⟩ := hf.get 29 47 (by kernel_rfl) (by kernel_rfl)
      apply op_value
      case ho => rfl
      case hw => exact (wanted_none rfl)
      case hrun => exact run_pick_t rfl (eval_tmp h38) (eval_tmp h47)
      case hS => exact rfl
      case hk => exact keep_refl _
      case hJ => exact hJ
    · refine step_pure (by kernel_rfl) fun k a w hJ hf => ?_
      obtain ⟨v48, h48, rfl⟩ := hf.get 30 48 (by kernel_rfl) (by kernel_rfl)
      apply op_value
      case ho => rfl
      case hw => exact (wanted_none rfl)
      case hrun => exact run_move (.inl rfl) (eval_tmp h48)
      case hS => exact rfl
      case hk => exact keep_refl _
      case hJ => exact hJ
    · refine step_pure (by kernel_rfl) fun k a w hJ hf => ?_
      obtain ⟨v49, h49, rfl⟩ := hf.get 31 49 (by kernel_rfl) (by kernel_rfl)
      apply op_call
      case ho => rfl
      case hw => exact (wanted_some rfl (by kernel_rfl) h49)
      case hrun => exact run_call rfl args_none (cf6 _ _)
      case hc => exact (knows_any w).mono fun e w' hp => ⟨_, hp.1, rfl, hp.2, bnext hJ hp.2⟩
    · refine step_pure (by kernel_rfl) fun k a w hJ hf => ?_
      obtain ⟨v49, h49, rfl⟩ := hf.get 31 49 (by kernel_rfl) (by kernel_rfl)
      obtain ⟨v50, h50, rfl⟩ := hf.get 32 50 (by kernel_rfl) (by kernel_rfl)
      apply op_value
      case ho => rfl
      case hw => exact (wanted_none rfl)
      case hrun => exact run_pick_t rfl (eval_tmp h49) (eval_tmp h50)
      case hS => exact rfl
      case hk => exact keep_refl _
      case hJ => exact hJ
    · refine step_pure (by kernel_rfl) fun k a w hJ hf => ?_
      obtain ⟨v51, h51, rfl⟩ := hf.get 33 51 (by kernel_rfl) (by kernel_rfl)
      apply op_value
      case ho => rfl
      case hw => exact (wanted_none rfl)
      case hrun => exact run_move (.inr rfl) (eval_tmp h51)
      case hS => exact rfl
      case hk => exact keep_refl _
      case hJ => exact hJ
end Go.Proofs.Ytnhpkkmjicphgaa
