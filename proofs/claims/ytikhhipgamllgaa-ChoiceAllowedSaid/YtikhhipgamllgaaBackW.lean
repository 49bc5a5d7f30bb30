/- The walk of ChoiceBack. Conditions: numbers within their kinds; the epochs' row reads. -/
import Derived.Test.YtikhhipgamllgaaKnowsC
import Derived.Test.YtikhhipgamllgaaBackP
namespace Go.Proofs.Ytikhhipgamllgaa
open Go.RowKit
theorem nth_plain (k n : Nat) (t : Bool) (w : World) (hn : n ≤ 32) (hk : k < bs t ^ n) (hk64 : k < 18446744073709551616) : Calls Try.prog 23 #[.int .u64 k, .int .i64 n, .bool t] w fun o w' => o = .returned (.int .u64 (nthS (bs t) k n : Nat)) ∧ w = w' := by
  have h := nth_any k n t w hk64
  rw [nth_of (by rw [cnt_nat hn]; exact hk)] at h
  exact h
theorem rank_plain (k n : Nat) (t : Bool) (w : World) (hn : n ≤ 32) (hk : k < bs t ^ n) (hc : nthS (bs t) k n < 18446744073709551616) : Calls Try.prog 19 #[.int .u64 (nthS (bs t) k n : Nat), .int .i64 n, .bool t] w fun o w' => o = .returned (.tuple #[.int .u64 k, .bool true]) ∧ w = w' := by
  have h := rank_any (nthS (bs t) k n) n t w hc
  rw [nthS_rank hn hk] at h
  exact h
theorem show_plain (c n : Nat) (w : World) (hn : n ≤ 32) (hc : c < 18446744073709551616) : Calls Try.prog 29 #[.int .u64 c, .int .i64 n] w fun o w' => o = .returned (.string ⟨(shwN c n).toArray⟩) ∧ Below w.heap.size w w' := by
  have h := show_any c n w hc
  rw [shw_nat c hn] at h
  exact h
theorem read_plain (c n : Nat) (w : World) (hn : n ≤ 32) (hc : c < 18446744073709551616) (hr : rightB c n = true) : Calls Try.prog 25 #[.string ⟨(shwN c n).toArray⟩] w fun o w' => o = .returned (.tuple #[.int .u64 c, .int .i64 n, .bool true]) ∧ Below w.heap.size w w' := by
  have h := read_any ⟨(shwN c n).toArray⟩ w
  rw [show (ByteArray.mk (shwN c n).toArray).data.toList = shwN c n from rfl, read_show hn hc hr] at h
  exact h
theorem right_plain (c n : Nat) (w : World) (hc : c < 18446744073709551616) (hr : rightB c n = true) : Calls Try.prog 16 #[.int .u64 c, .int .i64 n] w fun o w' => o = .returned (.bool true) ∧ w = w' := by
  have h := right_any c n w hc
  rw [hr] at h
  exact h
theorem with_plain (j : Nat) (w : World) (hj : j < 32) : Calls Try.prog 14 #[.int .u64 (kp j : Nat), .int .i64 j, .int .i64 1] w fun o w' => o = .returned (.int .u64 (kp (j + 1) : Nat)) ∧ w = w' := by
  have h := with_any (kp j) j 1 w (kp_lt j) (by omega)
  have e : withN (kp j) j 1 = kp (j + 1) := by unfold withN; rw [if_pos (by omega)]; rfl
  rw [e] at h
  exact h
theorem allow_plain (c : Nat) (A : Option Addr) (cap m : Nat) (e : List Int) (w : World) (hc : c < 18446744073709551616) (hm : m = e.length) (hr : Reads w w.heap.size 1 A e.length (iz e)) (ha : allowB c e = true) : Calls Try.prog 27 #[.int .u64 c, .slice A m cap] w fun o w' => o = .returned (.bool true) ∧ w = w' := by
  subst hm
  have h := allow_any c A cap e w hc hr
  rw [ha] at h
  exact h
set_option maxRecDepth 10000 in
set_option maxHeartbeats 1000000 in
theorem back_bad (k : Int) (n : Int) (t : Bool) (A : Option Addr) (len cap : Nat) (w : World) (h : n < 0 ∨ 32 < n ∨ 32 < len) :
    Calls Try.prog 6 #[.int .u64 k, .int .i64 n, .bool t, .slice A len cap] w fun o w' => o = .returned (.bool true) ∧ Below w.heap.size w w' := by
  by_cases h1 : n < 0
  · go_enter Try.func6, Try.ntmps6
    go_wp2_with (go_at_call 18; refine (knows_any _).mono ?_; rintro o w1 ⟨rfl, hb1⟩)
    go_ret
    exact ⟨rfl, hb1⟩
  · by_cases h2 : 32 < n
    · go_enter Try.func6, Try.ntmps6
      go_wp2_with (go_at_call 18; refine (knows_any _).mono ?_; rintro o w1 ⟨rfl, hb1⟩)
      go_ret
      exact ⟨rfl, hb1⟩
    · have h3 : 32 < len := by omega
      clear h
      go_enter Try.func6, Try.ntmps6
      go_wp2_with (go_at_call 18; refine (knows_any _).mono ?_; rintro o w1 ⟨rfl, hb1⟩)
      go_ret
      exact ⟨rfl, hb1⟩
set_option maxRecDepth 10000 in
set_option maxHeartbeats 1000000 in
theorem back_good (k n : Nat) (t : Bool) (A : Option Addr) (m cap : Nat) (e : List Int) (w : World) (hn : n ≤ 32) (hm : m = e.length) (hm32 : m ≤ 32) (hr : Reads w w.heap.size 1 A e.length (iz e)) :
    Calls Try.prog 6 #[.int .u64 k, .int .i64 n, .bool t, .slice A m cap] w fun o w' => o = .returned (.bool true) ∧ Below w.heap.size w w' := by
  have HR := Lib.hid hr
  have HM := Lib.hid hm
  obtain ⟨q, hq⟩ : ∃ q, q = cnt n t := ⟨_, rfl⟩
  have hqb : q = bs t ^ n := by rw [hq]; exact cnt_nat hn t
  have hq0 : 0 < q := by rw [hqb]; exact Nat.pow_pos (by have := bs_ge t; omega)
  obtain ⟨k', hk'⟩ : ∃ k', k' = k % q := ⟨_, rfl⟩
  have ek : ((k : Int) % (q : Int)) = (k' : Int) := by rw [hk', Int.natCast_emod]
  have hkq : k' < bs t ^ n := by rw [hk', ← hqb]; exact Nat.mod_lt _ hq0
  have hk64 : k' < 18446744073709551616 := by have := pow_bs (t := t) hn; omega
  have h0 : 0 < bs t := by have := bs_ge t; omega
  have h4 : bs t ≤ 4 := by have := bs_le t; omega
  obtain ⟨c, hc⟩ : ∃ c, c = nthS (bs t) k' n := ⟨_, rfl⟩
  have hc64 : c < 18446744073709551616 := by rw [hc]; have := nthS_lt (k := k') h0 h4 n; have := pow64 hn; omega
  have hrc : rightB c n = true := by rw [hc]; exact nthS_right hn
  have C23 : Hid (∀ w, Calls Try.prog 23 #[.int .u64 k', .int .i64 n, .bool t] w fun o w' => o = .returned (.int .u64 (c : Nat)) ∧ w = w') := Lib.hid (fun w => by rw [hc]; exact nth_plain k' n t w hn hkq hk64)
  have C19 : Hid (∀ w, Calls Try.prog 19 #[.int .u64 (c : Nat), .int .i64 n, .bool t] w fun o w' => o = .returned (.tuple #[.int .u64 k', .bool true]) ∧ w = w') := Lib.hid (fun w => by have h := hc64; rw [hc] at h ⊢; exact rank_plain k' n t w hn hkq h)
  obtain ⟨st, hst⟩ : ∃ st : ByteArray, st = ⟨(shwN c n).toArray⟩ := ⟨_, rfl⟩
  have C29 : Hid (∀ w, Calls Try.prog 29 #[.int .u64 c, .int .i64 n] w fun o w' => o = .returned (.string st) ∧ Below w.heap.size w w') := Lib.hid (fun w => by rw [hst]; exact show_plain c n w hn hc64)
  have C25 : Hid (∀ w, Calls Try.prog 25 #[.string st] w fun o w' => o = .returned (.tuple #[.int .u64 c, .int .i64 n, .bool true]) ∧ Below w.heap.size w w') := Lib.hid (fun w => by rw [hst]; exact read_plain c n w hn hc64 hrc)
  have C16 : Hid (∀ w, Calls Try.prog 16 #[.int .u64 c, .int .i64 n] w fun o w' => o = .returned (.bool true) ∧ w = w') := Lib.hid (fun w => right_plain c n w hc64 hrc)
  have C21 : Hid (∀ w, Calls Try.prog 21 #[.int .i64 n, .bool t] w fun o w' => o = .returned (.int .u64 (q : Nat)) ∧ w = w') := Lib.hid (fun w => by rw [hq]; exact count_any n t w)
  have A0 : Hid (allowB 0 e = true) := Lib.hid (allow_none (by omega))
  have A1 : Hid (allowB (kp m) e = true) := Lib.hid (by rw [hm]; exact allow_kept (by omega))
  have hn1 : ¬ ((n : Int) < 0) := by omega
  have hn2 : ¬ ((32 : Int) < (n : Int)) := by omega
  have hm2 : ¬ ((32 : Int) < (m : Int)) := by omega
  clear hr hm hq hqb hk' hkq hk64 h0 h4 hc hc64 hrc hst
  go_enter Try.func6, Try.ntmps6
  go_wp2_with (first | (go_at_call 18; refine (knows_any _).mono ?_; rintro o w1 ⟨rfl, hb1⟩) | (go_at_call 21; refine (C21.out _).mono ?_; rintro o w' ⟨rfl, rfl⟩) | (go_at_call 23; refine (C23.out _).mono ?_; rintro o w' ⟨rfl, rfl⟩) | (go_at_call 19; refine (C19.out _).mono ?_; rintro o w' ⟨rfl, rfl⟩) | (go_at_call 29; refine (C29.out _).mono ?_; rintro o w2 ⟨rfl, hb2⟩) | (go_at_call 25; refine (C25.out _).mono ?_; rintro o w3 ⟨rfl, hb3⟩) | (go_at_call 16; refine (C16.out _).mono ?_; rintro o w' ⟨rfl, rfl⟩))
  have s1 := hb1.size
  have s2 := hb2.size
  have hbw : Below w.heap.size w w3 := (hb1.trans (hb2.mono s1)).trans (hb3.mono (by omega))
  have HBW := Lib.hid hbw
  have HR3 : Hid (Reads w3 w3.heap.size 1 A e.length (iz e)) := Lib.hid ((HR.out.below hbw).more hbw.size)
  clear hb1 hb2 hb3 s1 s2 hbw
  go_loopw [16, 17] (fun c i wr => ∃ j : Nat, j ≤ m ∧ i = .int .i64 j ∧ c = .int .u64 (kp j : Nat) ∧ wr = w3) (fun _ i _ => m - (intOf i).toNat)
  case atStart => exact ⟨0, by omega, rfl, rfl, rfl⟩
  case round =>
    obtain ⟨j, hj, rfl, rfl, rfl⟩ := hrel
    by_cases hlt : j < m
    · go_wp2_with (go_at_call 14; refine (with_plain j _ (by omega)).mono ?_; rintro o w' ⟨rfl, rfl⟩)
      exact ⟨⟨j + 1, by omega, by go_num, rfl, trivial⟩, by simp [intOf]; omega⟩
    · obtain rfl : j = m := by omega
      go_wp2_with fail
      refine (allow_plain 0 A cap j e _ (by omega) HM.out HR3.out A0.out).mono ?_
      rintro o w' ⟨rfl, rfl⟩
      go_wp2_with fail
      refine (allow_plain (kp j) A cap j e _ (kp_lt j) HM.out HR3.out A1.out).mono ?_
      rintro o w' ⟨rfl, rfl⟩
      go_wp2_with fail
      go_ret
      exact ⟨rfl, HBW.out⟩
/-- a row of ints that came in (as the frame's 'IsRow' has it) -/
def IsRow64 (w : World) (a : Option Addr) (len cap : Nat) (z : List Int) : Prop :=
  (a = none ∧ len = 0 ∧ cap = 0 ∧ z = []) ∨
  ∃ x, a = some x ∧ len ≤ cap ∧ cap ≤ maxLen ∧ z.length = cap ∧ (∀ i, i < z.length → w.cell? (x.add i) = some (.int .i64 (z.getD i 0))) ∧ ∀ n ∈ z, (Lit.int .i64 n).wf = true
theorem isRow64_reads {w : World} {a : Option Addr} {len cap : Nat} {z : List Int} (h : IsRow64 w a len cap z) : ∃ e : List Int, len = e.length ∧ Reads w w.heap.size 1 a e.length (iz e) := by
  rcases h with ⟨rfl, rfl, rfl, rfl⟩ | ⟨x, rfl, hl, hm, hz, hc, hw⟩
  · exact ⟨[], rfl, Reads.none_⟩
  · have he : (z.take len).length = len := by rw [List.length_take]; omega
    refine ⟨z.take len, he.symm, ⟨by rw [iz_len]; omega, fun hn => ⟨x, rfl, ?_, fun j u hj => ?_⟩⟩⟩
    · have h0 := hc 0 (by omega)
      rcases Nat.lt_or_ge x.block w.heap.size with hlt | hge
      · exact hlt
      · simp [World.cell?, Addr.add, Array.getElem?_eq_none hge] at h0
    · have hjl : j < len := by
        rcases Nat.lt_or_ge j len with h1 | h1
        · exact h1
        · rw [List.getElem?_eq_none (by rw [iz_len]; omega)] at hj; cases hj
      rw [hc j (by omega), ← hj]
      have hjz : j < z.length := by omega
      simp [iz, List.getD, hjl, hjz]
end Go.Proofs.Ytikhhipgamllgaa
