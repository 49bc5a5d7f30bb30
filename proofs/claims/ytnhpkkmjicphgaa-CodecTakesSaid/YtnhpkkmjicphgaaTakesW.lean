/- CodecTakes returns true: the walk. Conditions: none. -/
import Derived.Test.YtnhpkkmjicphgaaShared
import Derived.Test.YtnhpkkmjicphgaaTakeTextE
import Derived.Test.YtnhpkkmjicphgaaRefText
namespace Go.Proofs.Ytnhpkkmjicphgaa
open Go.RowKit
/-- three results: a value, bytes in new memory, a bool -/
def TP (V : Value) (T : List UInt8) (b : Bool) (w : World) (e : Ending) (w' : World) : Prop :=
  ∃ A c, e = .returned (.tuple #[V, .slice A T.length c, .bool b]) ∧ Reads w' w'.heap.size 1 A T.length (vb T) ∧ Below w.heap.size w w'
theorem tp_no {V : Value} {w w' : World} {e : Ending} (h : e = .returned (.tuple #[V, .slice none 0 0, .bool false]) ∧ Below w.heap.size w w') : TP V [] false w e w' := ⟨none, 0, h.1, Reads.none_, h.2⟩
theorem tp_yes {V : Value} {T : List UInt8} {w w' : World} {e : Ending} (h : ∃ A c, e = .returned (.tuple #[V, .slice A T.length c, .bool true]) ∧ T.length ≤ c ∧ Reads w' w'.heap.size 1 A T.length (vb T) ∧ Below w.heap.size w w') : TP V T true w e w' := by
  obtain ⟨A, c, h1, _, h3, h4⟩ := h
  exact ⟨A, c, h1, h3, h4⟩
/-- a callee that gives the same from any world -/
def Gives (f : Nat) (a0 : Option Addr) (len0 cap0 : Nat) (l : List UInt8) (more : Array Value) (V : Value) (T : List UInt8) (b : Bool) : Prop :=
  ∀ w, Reads w w.heap.size 1 a0 len0 (vb l) → Calls Try.prog f (#[.slice a0 len0 cap0] ++ more) w (TP V T b w)
set_option maxRecDepth 100000 in
set_option maxHeartbeats 1000000 in
theorem takes_walk (a0 : Option Addr) (len0 cap0 : Nat) (l : List UInt8) (most : Int) (w : World) (hr : Reads w w.heap.size 1 a0 len0 (vb l)) (h1 : len0 ≤ 500) (n i : Int) (s : ByteArray) (T1 T2 T3 : List UInt8) (b1 b2 b3 : Bool)
    (c13 : Gives 13 a0 len0 cap0 l #[] (.int .u64 n) T1 b1) (c14 : Gives 14 a0 len0 cap0 l #[] (.int .u64 n) T1 b1) (c15 : Gives 15 a0 len0 cap0 l #[] (.int .i64 i) T2 b2) (c16 : Gives 16 a0 len0 cap0 l #[] (.int .i64 i) T2 b2)
    (c17 : Gives 17 a0 len0 cap0 l #[.int .i64 most] (.string s) T3 b3) (c18 : Gives 18 a0 len0 cap0 l #[.int .i64 most] (.string s) T3 b3) :
    Calls Try.prog 4 #[.slice a0 len0 cap0, .int .i64 most] w (LawPost w) := by
  have HR := Lib.hid hr
  have C13 := Lib.hid c13
  have C14 := Lib.hid c14
  have C15 := Lib.hid c15
  have C16 := Lib.hid c16
  have C17 := Lib.hid c17
  have C18 := Lib.hid c18
  clear hr c13 c14 c15 c16 c17 c18
  go_enter Try.func4, Try.ntmps4
  go_wp2_with fail
  refine (C13.out _ HR.out).mono ?_
  rintro e w1 ⟨A1, k1, rfl, r1, hb⟩
  have R1 := Lib.hid r1; have HB1 := Lib.hid hb; clear r1 hb
  go_wp2_with fail
  refine (C14.out _ (HR.out.next HB1.out)).mono ?_
  rintro e w2 ⟨A2, k2, rfl, r2, hb⟩
  have R12 := Lib.hid (R1.out.next hb); have R2 := Lib.hid r2; have HB2 := Lib.hid (bnext HB1.out hb); clear r2 hb
  go_wp2_with fail
  refine (C15.out _ (HR.out.next HB2.out)).mono ?_
  rintro e w3 ⟨A3, k3, rfl, r3, hb⟩
  have R13 := Lib.hid (R12.out.next hb); have R23 := Lib.hid (R2.out.next hb); have R3 := Lib.hid r3; have HB3 := Lib.hid (bnext HB2.out hb); clear r3 hb
  go_wp2_with fail
  refine (C16.out _ (HR.out.next HB3.out)).mono ?_
  rintro e w4 ⟨A4, k4, rfl, r4, hb⟩
  have R14 := Lib.hid (R13.out.next hb); have R24 := Lib.hid (R23.out.next hb); have R34 := Lib.hid (R3.out.next hb); have R4 := Lib.hid r4; have HB4 := Lib.hid (bnext HB3.out hb); clear r4 hb
  go_wp2_with fail
  refine (C17.out _ (HR.out.next HB4.out)).mono ?_
  rintro e w5 ⟨A5, k5, rfl, r5, hb⟩
  have R15 := Lib.hid (R14.out.next hb); have R25 := Lib.hid (R24.out.next hb); have R35 := Lib.hid (R34.out.next hb); have R45 := Lib.hid (R4.out.next hb); have R5 := Lib.hid r5; have HB5 := Lib.hid (bnext HB4.out hb); clear r5 hb
  go_wp2_with fail
  refine (C18.out _ (HR.out.next HB5.out)).mono ?_
  rintro e w6 ⟨A6, k6, rfl, r6, hb⟩
  have v1 := conv_sl (c := k1) (R15.out.next hb)
  have v2 := conv_sl (c := k2) (R25.out.next hb)
  have v3 := conv_sl (c := k3) (R35.out.next hb)
  have v4 := conv_sl (c := k4) (R45.out.next hb)
  have v5 := conv_sl (c := k5) (R5.out.next hb)
  have v6 := conv_sl (c := k6) r6
  have HB6 := Lib.hid (bnext HB5.out hb)
  clear r6 hb R1 R12 R13 R14 R15 R2 R23 R24 R25 R3 R34 R35 R4 R45 R5
  go_wp2_with (go_at_call 6; refine (knows_any _).mono ?_; rintro e w7 ⟨rfl, hb7⟩)
  go_ret
  exact ⟨rfl, bnext HB6.out hb7⟩
set_option maxHeartbeats 1000000 in
theorem takes_long (a0 : Option Addr) (len0 cap0 : Nat) (most : Int) (w : World) (h1 : 500 < len0) :
    Calls Try.prog 4 #[.slice a0 len0 cap0, .int .i64 most] w (LawPost w) := by
  go_enter Try.func4, Try.ntmps4
  go_wp2_with (go_at_call 6; refine (knows_any _).mono ?_; rintro e w1 ⟨rfl, hb1⟩)
  go_ret
  exact ⟨rfl, hb1⟩
theorem takes_short (a0 : Option Addr) (len0 cap0 : Nat) (l : List UInt8) (most : Int) (w : World) (hr : Reads w w.heap.size 1 a0 len0 (vb l)) (hc : len0 ≤ cap0) (h1 : len0 ≤ 500) (hm : most ≤ 9223372036854775807) :
    Calls Try.prog 4 #[.slice a0 len0 cap0, .int .i64 most] w (LawPost w) := by
  rcases dec_cases l with ⟨n, t, hn, hl⟩ | hno
  · have c13 : Gives 13 a0 len0 cap0 l #[] (.int .u64 (n : Int)) t true := fun w hr => (codec_takes.yes a0 len0 cap0 l t n w hr hc (by omega) hn hl).mono fun _ _ h => tp_yes h
    have c14 : Gives 14 a0 len0 cap0 l #[] (.int .u64 (n : Int)) t true := fun w hr => (ref_takes.yes a0 len0 cap0 l t n w hr hc (by omega) hn hl).mono fun _ _ h => tp_yes h
    have c15 : Gives 15 a0 len0 cap0 l #[] (.int .i64 (zag n)) t true := fun w hr => (codec_int_yes a0 len0 cap0 l t n w hr hc (by omega) hn hl).mono fun _ _ h => tp_yes h
    have c16 : Gives 16 a0 len0 cap0 l #[] (.int .i64 (zag n)) t true := fun w hr => (ref_int_yes a0 len0 cap0 l t n w hr hc (by omega) hn hl).mono fun _ _ h => tp_yes h
    by_cases ht : TooLong n t.length most
    · have c17 : Gives 17 a0 len0 cap0 l #[.int .i64 most] (.string ByteArray.empty) [] false := fun w hr => (codec_text_long a0 len0 cap0 l t n most w hr hc (by omega) hn hl hm ht).mono fun _ _ h => tp_no h
      have c18 : Gives 18 a0 len0 cap0 l #[.int .i64 most] (.string ByteArray.empty) [] false := fun w hr => (ref_text_long a0 len0 cap0 l t n most w hr hc (by omega) hn hl hm ht).mono fun _ _ h => tp_no h
      exact takes_walk a0 len0 cap0 l most w hr h1 _ _ _ t t [] true true false c13 c14 c15 c16 c17 c18
    · have hm1 : (n : Int) ≤ most := by unfold TooLong at ht; omega
      have hm2 : n ≤ t.length := by unfold TooLong at ht; omega
      have c17 : Gives 17 a0 len0 cap0 l #[.int .i64 most] (.string ⟨(t.take n).toArray⟩) (t.drop n) true := by
        intro w hr
        rcases Nat.lt_or_ge n t.length with h2 | h2
        · exact (codec_text_mid a0 len0 cap0 l t n most w hr hc (by omega) hn hl hm1 hm h2).mono fun _ _ h => tp_yes h
        · rcases Nat.eq_zero_or_pos t.length with h3 | h3
          · exact (codec_text_nil a0 len0 cap0 l t n most w hr hc (by omega) hn hl hm1 hm (by omega) (List.eq_nil_of_length_eq_zero h3)).mono fun _ _ h => tp_yes h
          · exact (codec_text_end a0 len0 cap0 l t n most w hr hc (by omega) hn hl hm1 hm (by omega) h3).mono fun _ _ h => tp_yes h
      have c18 : Gives 18 a0 len0 cap0 l #[.int .i64 most] (.string ⟨(t.take n).toArray⟩) (t.drop n) true := by
        intro w hr
        rcases Nat.lt_or_ge n t.length with h2 | h2
        · exact (ref_text_mid a0 len0 cap0 l t n most w hr hc (by omega) hn hl hm1 hm h2).mono fun _ _ h => tp_yes h
        · rcases Nat.eq_zero_or_pos t.length with h3 | h3
          · exact (ref_text_nil a0 len0 cap0 l t n most w hr hc (by omega) hn hl hm1 hm (by omega) (List.eq_nil_of_length_eq_zero h3)).mono fun _ _ h => tp_yes h
          · exact (ref_text_end a0 len0 cap0 l t n most w hr hc (by omega) hn hl hm1 hm (by omega) h3).mono fun _ _ h => tp_yes h
      exact takes_walk a0 len0 cap0 l most w hr h1 _ _ _ t t (t.drop n) true true true c13 c14 c15 c16 c17 c18
  · have c13 : Gives 13 a0 len0 cap0 l #[] (.int .u64 0) [] false := fun w hr => (codec_takes.no a0 len0 cap0 l w hr hc (by omega) hno).mono fun _ _ h => tp_no h
    have c14 : Gives 14 a0 len0 cap0 l #[] (.int .u64 0) [] false := fun w hr => (ref_takes.no a0 len0 cap0 l w hr hc (by omega) hno).mono fun _ _ h => tp_no h
    have c15 : Gives 15 a0 len0 cap0 l #[] (.int .i64 0) [] false := fun w hr => (codec_int_no a0 len0 cap0 l w hr hc (by omega) hno).mono fun _ _ h => tp_no h
    have c16 : Gives 16 a0 len0 cap0 l #[] (.int .i64 0) [] false := fun w hr => (ref_int_no a0 len0 cap0 l w hr hc (by omega) hno).mono fun _ _ h => tp_no h
    have c17 : Gives 17 a0 len0 cap0 l #[.int .i64 most] (.string ByteArray.empty) [] false := fun w hr => (codec_text_no a0 len0 cap0 l most w hr hc (by omega) hno).mono fun _ _ h => tp_no h
    have c18 : Gives 18 a0 len0 cap0 l #[.int .i64 most] (.string ByteArray.empty) [] false := fun w hr => (ref_text_no a0 len0 cap0 l most w hr hc (by omega) hno).mono fun _ _ h => tp_no h
    exact takes_walk a0 len0 cap0 l most w hr h1 0 0 _ [] [] [] false false false c13 c14 c15 c16 c17 c18
end Go.Proofs.Ytnhpkkmjicphgaa
