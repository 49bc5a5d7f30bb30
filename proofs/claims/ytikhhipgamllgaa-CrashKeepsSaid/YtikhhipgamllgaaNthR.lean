/- The reference's Nth. Conditions: a number within its kind. -/
import Derived.Test.YtikhhipgamllgaaNth
namespace Go.Proofs.Ytikhhipgamllgaa
open Go.RowKit
theorem nl_zero (b k : Nat) : nl b k 0 = fz 0 0 := by simp [nl, fz]
set_option maxRecDepth 100000 in
set_option maxHeartbeats 1000000 in
theorem rnth_any (k : Nat) (n : Int) (t : Bool) (w : World) (hk : k < 18446744073709551616) : Calls Try.prog 24 #[.int .u64 k, .int .i64 n, .bool t] w fun o w' => o = .returned (.int .u64 (nthN k n t : Nat)) ∧ Below w.heap.size w w' := by
  have HK := Lib.hid hk
  clear hk
  by_cases h : k < cnt n t
  · have hn : 0 ≤ n ∧ n ≤ 32 := by
      unfold cnt at h
      by_cases h1 : 0 ≤ n ∧ n ≤ 32
      · exact h1
      · rw [if_neg h1] at h; omega
    obtain ⟨m, rfl⟩ := Int.eq_ofNat_of_zero_le hn.1
    have HR : Hid (nthN k m t = nthS (bs t) k m) := Lib.hid (by unfold nthN; rw [if_pos h]; rfl)
    have hm : m ≤ 32 := by omega
    obtain ⟨q, hq⟩ : ∃ q, q = cnt m t := ⟨_, rfl⟩
    obtain ⟨b, hb⟩ : ∃ b, b = bs t := ⟨_, rfl⟩
    have hb2 : 0 < b := by have := bs_ge t; omega
    have hb4 : b ≤ 4 := by have := bs_le t; omega
    have hkq : ¬ q ≤ k := by omega
    have HB0 := Lib.hid hb2
    have HB4 := Lib.hid hb4
    have HQ := Lib.hid hq
    have HBS := Lib.hid hb
    clear h hn hq hb hb4
    have hz := zeros
    go_enter Try.func24, Try.ntmps24
    go_wp2_with (go_at_call 22; refine (rcount_any m t _).mono ?_; rintro o w' ⟨rfl, rfl⟩; rw [← HQ.out])
    clear hz
    go_loopw [0, 8] (fun y i wr => ∃ j : Nat, j ≤ m ∧ i = .int .i64 j ∧ (∃ z : Nat, y = .int .u64 z ∧ Hid (z = k / b ^ j)) ∧ Blk wr w.heap.size 112 (iv (nl b k j)) ∧ Below w.heap.size w wr) (fun _ i _ => m - (intOf i).toNat)
    case atStart =>
      refine ⟨0, by omega, rfl, ⟨k, rfl, Lib.hid (by simp)⟩, ?_, (Below.refl _ _).alloc (Nat.le_refl _) _⟩
      rw [nl_zero]
      exact Blk.new w 112 _
    case round =>
      obtain ⟨j, hj, rfl, ⟨z, rfl, HZ⟩, hf, hbl⟩ := hrel
      have hBs := hf.lt
      by_cases hlt : j < m
      · have hcell : wr.cell? ⟨w.heap.size, j, none⟩ = some (.int .i64 ((nl b k j)[j]'(by rw [nl_len]; omega) : Nat)) := by
          rw [hf.cell j, iv_get _ _ (by rw [nl_len]; omega)]
        have hfro := hf.frozen j
        have HF := Lib.hid hf
        clear hf
        obtain ⟨d, hd⟩ : ∃ d, d = z % b := ⟨_, rfl⟩
        have ed : ((z : Int) % (b : Int)) = (d : Int) := by rw [hd, Int.natCast_emod]
        have hd4 : d < 4 := by rw [hd]; have := Nat.mod_lt z hb2; have := HB4.out; omega
        obtain ⟨y, hy⟩ : ∃ y, y = z / b := ⟨_, rfl⟩
        have ey : ((z : Int) / (b : Int)) = (y : Int) := by rw [hy, Int.natCast_ediv]
        have hy64 : y < 18446744073709551616 := by
          have h1 := HZ.out
          have h2 := HK.out
          have h3 := Nat.div_le_self k (b ^ j)
          have h4 := Nat.div_le_self z b
          omega
        have hw : wrap64 ((z : Int) % (b : Int)) = (d : Int) := by rw [ed]; unfold wrap64; omega
        have HD := Lib.hid hd
        have HY := Lib.hid hy
        have HY64 := Lib.hid hy64
        clear hd hy hy64 ed
        go_wp2_with (go_at_call 73; refine (rbase_any t _).mono ?_; rintro o w' ⟨rfl, rfl⟩; rw [← HBS.out])
        rw [IntWalk.u64_in (y : Int) (by have := HY64.out; omega)]
        refine ⟨⟨j + 1, by omega, by go_num, ⟨y, rfl, Lib.hid (by rw [HY.out, HZ.out, Nat.div_div_eq_div_mul, Nat.pow_succ])⟩, ?_, hbl.setCell (by simp) _⟩, by simp [intOf]; omega⟩
        have h := HF.out.set_ j (.int .i64 (d : Int))
        have e : d = k / b ^ j % b := by rw [HD.out, HZ.out]
        rw [iv_set, e, nl_set] at h
        rw [e]
        exact h
      · obtain rfl : j = m := by omega
        go_wp2_with (first | (refine wpList_load_row rfl 112 _ rfl w.heap.size rfl 112 (iv (nl b k j)) (0, 0) _ hf Try.underlying112 rfl (by rw [size112, iv_size, nl_len]) ?_) | (go_at_call 71; refine (of_any (nl b k j) _ (nl_len _ _ _) (nl_mem HB0.out HB4.out)).mono ?_; rintro e w3 ⟨rfl, hb3⟩))
        go_ret
        exact ⟨by rw [HR.out, ofF_nl HB0.out HB4.out hm, HBS.out]; rfl, hbl.trans (hb3.mono hbl.size)⟩
  · have HR : Hid (nthN k n t = 0) := Lib.hid (by unfold nthN; rw [if_neg h])
    obtain ⟨q, hq⟩ : ∃ q, q = cnt n t := ⟨_, rfl⟩
    have hkq : q ≤ k := by omega
    have HQ := Lib.hid hq
    clear h hq
    go_enter Try.func24, Try.ntmps24
    go_wp2_with (go_at_call 22; refine (rcount_any n t _).mono ?_; rintro o w' ⟨rfl, rfl⟩; rw [← HQ.out])
    go_ret
    exact ⟨by rw [HR.out]; rfl, (Below.refl _ _).alloc (Nat.le_refl _) _⟩
end Go.Proofs.Ytikhhipgamllgaa
