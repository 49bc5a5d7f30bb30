/- The reference's TakeUint: the walk. Conditions: at most 2^39 bytes. -/
import Derived.Test.YtnhpkkmjicphgaaRefTake
import Derived.Deep.DeepMust
namespace Go.Proofs.Ytnhpkkmjicphgaa
open Go.RowKit
attribute [local go_sem ↓] Go.wp_at_zero Go.wp_at_succ
theorem take_own {w w2 : World} {V n : Nat} {l t : List UInt8} {v : Value} (hV : V < 18446744073709551616) (hl : l = enc V ++ t) (hn : n = t.length) (hown : w2.ownsRow w.heap.size 5 1 v (0 + n) ([] ++ vb t)) (hb : Below w.heap.size w w2) :
    ∃ A c, v = .slice A n c ∧ (∃ n' t', n' < 18446744073709551616 ∧ l = enc n' ++ t' ∧ TakeYes w n' t' (.returned (.tuple #[.int .u64 V, .slice A n c, .bool true])) w2) := by
  subst hn
  rw [Nat.zero_add, List.nil_append] at hown
  obtain ⟨A, c, hv, hc, hr⟩ := sl_own hown
  exact ⟨A, c, hv, V, t, hV, hl, A, c, rfl, hc, hr, hb⟩
theorem below_undrew {B : Nat} {w w1 : World} (h : Below B w.drew w1) : Below B w w1 := ⟨h.os, h.tape, h.output, h.size, h.block⟩
set_option maxRecDepth 100000 in
set_option maxHeartbeats 2000000 in
theorem ref_take_some (b off k c : Nat) (l : List UInt8) (w : World) (hkl : k = l.length) (hr : Reads w w.heap.size 1 (some ⟨b, off, none⟩) k (vb l)) (hcell : ∀ j (hj : j < l.length), w.cell? ⟨b, off + j, none⟩ = some (.int .u8 (l[j].toNat : Int))) (hkc : k ≤ c) (hk : k ≤ 549755813888) :
    Calls Try.prog 14 #[.slice (some ⟨b, off, none⟩) k c] w (TakePost w l) := by
  subst hkl
  obtain ⟨i0, hi0, hz0, hz1, hz2⟩ := info_parts info5
  have HC := Lib.hid hcell; clear hcell
  have HR := Lib.hid hr; clear hr
  go_enter Try.func14, Try.ntmps14
  go_wp2_with fail
  go_loopw [5, 6] (fun n i wr => ∃ (q : Nat), i = .int .i64 q ∧ q ≤ l.length ∧ q ≤ 10 ∧ Hid (More (l.take q)) ∧ (∃ v : Nat, Hid (v = val (l.take q) % 18446744073709551616) ∧ n = .int .u64 v) ∧ wr = w) (fun _ i _ => l.length - (intOf i).toNat)
  case atStart => exact ⟨0, rfl, Nat.zero_le _, by omega, Lib.hid (by intro b hb; simp at hb), ⟨0, Lib.hid (by simp [val]), rfl⟩, rfl⟩
  case round =>
    obtain ⟨q, rfl, hql, hq10, hmore, ⟨v, HV, rfl⟩, rfl⟩ := hrel
    by_cases hlt : q < l.length
    · obtain ⟨x, hx⟩ : ∃ x : Nat, x = l[q].toNat := ⟨_, rfl⟩
      have hc := HC.out q hlt
      rw [← hx] at hc
      have hx256 : x < 256 := by rw [hx]; exact l[q].toNat_lt
      have HX := Lib.hid hx; clear hx
      by_cases h10 : 10 ≤ q
      · go_wp2_with fail
        go_ret3
        refine .inr ⟨?_, rfl, Below.refl _ _⟩
        have e : q = 10 := by omega
        have h := hmore.out
        rw [e] at h
        exact ref_ten h (by omega)
      · have hq9 : q ≤ 9 := by omega
        have e1 := and127 hx256
        have HO : Hid (bits .or .u64 (v : Int) (IntKind.u64.wrap ((x : Int) % 128 * 2 ^ (7 * q))) = ((val (l.take (q + 1)) % 18446744073709551616 : Nat) : Int)) := by
          have h1 := or_step' (a := v) (x := x) (q := q) (by rw [HV.out]; exact Nat.lt_of_le_of_lt (Nat.mod_le _ _) (val_take_lt l q)) hq9
          refine Lib.hid (h1.trans (congrArg (fun k : Nat => (k : Int)) ?_))
          rw [val_take hlt, HV.out, ← HX.out, Nat.mod_add_mod]
        by_cases hx128 : x < 128
        · obtain ⟨V, hV⟩ : ∃ V : Nat, V = val (l.take (q + 1)) % 18446744073709551616 := ⟨_, rfl⟩
          have HOV : Hid (bits .or .u64 (v : Int) (IntKind.u64.wrap ((x : Int) % 128 * 2 ^ (7 * q))) = (V : Int)) := by
            rw [hV]; exact HO
          have HVV := Lib.hid hV; clear hV
          have HV64 : Hid (V < 18446744073709551616) := Lib.hid (by rw [HVV.out]; exact Nat.mod_lt _ (by decide))
          have hkcc : q + 1 ≤ c := by omega
          have HRT : Hid (Reads wr wr.heap.size 1 (some ⟨b, off, none⟩) (q + 1) (vb (l.take (q + 1)))) := Lib.hid (reads_take HR.out (by omega))
          by_cases hE : enc V = l.take (q + 1)
          · have HE := Lib.hid hE
            have hEb : (enc V == l.take (q + 1)) = true := by rw [hE]; simp
            clear hE
            have HVF : Hid (l = enc V ++ l.drop (q + 1)) := Lib.hid (by rw [HE.out, List.take_append_drop])
            go_wp2_with fail
            rw [HOV.out]
            have hcv0 := fun c' => conv_sl (c := c') HRT.out
            have hcv3 := fun c' => conv_sl (c := c') HRT.out.drew
            have hw1 : IntKind.i64.wrap ((q : Int) + 1) = (q : Int) + 1 := IntWalk.i64_in _ (by omega)
            have hw2 : (0 : Int) ≤ (q : Int) + 1 := by omega
            have hw3 : ((q : Int) + 1).toNat = q + 1 := by omega
            have hw4 : (q : Int) + 1 ≤ (c : Int) := by omega
            go_region_with (go_at_call 8; refine (ref_uint_nil V _ HV64.out).mono ?_; rintro e w1 ⟨g, cap, rfl, hown, hb1⟩; have hcv1 := fun c' => conv_sl (c := c') (HRT.out.drew.below hb1); have hcv2 := conv_sl (c := cap) (Reads.of_own hown))
            all_goals clear hw1 hw2 hw3 hw4 hcv0 hcv1 hcv2 hcv3
            all_goals (have hB1 : wr.heap.size ≤ w1.heap.size := hb1.size; have hown0 := ownsRow_empty w1 wr.heap.size hB1; have hb1' : Below wr.heap.size wr w1 := below_undrew hb1)
            all_goals (have HB := Lib.hid hb1'; clear hb1')
            all_goals go_wp2_with (at_builtin; go_must (refine wpList_append_any _ rfl (.tmp 43) (.tmp 47) 22 rfl wr.heap.size 5 i0 (.int .u8 0) 1 1 Try.underlying22 hi0 hz0 hz1 hz2 rfl (by decide) (.slice (some ⟨w1.heap.size, 0, none⟩) 0 0) 0 [] rfl hown0 wr.heap.size _ (l.length - (q + 1)) _ (vb (l.drop (q + 1))) rfl (by split <;> first | exact (reads_drop0 (by omega)).alloc hB1 _ | exact ((reads_drop HR.out (by omega)).below HB.out).alloc hB1 _) (vb_one _) (by unfold maxLen; omega) (by omega) (by simp; omega) ?_); intro v2 w2 hown2 hg2 hat2)
            all_goals (go_ret3; obtain ⟨A', c', hv, hp⟩ := take_own (w := wr) (l := l) (t := l.drop (q + 1)) HV64.out HVF.out (by simp) hown2 (below_app HB.out hB1 (fun j hj => Nat.le_trans hB1 (own_head hj)) hg2); subst hv; exact .inl hp)
          · have HE := Lib.hid hE
            have hEb : (enc V == l.take (q + 1)) = false := by simpa using hE
            clear hE
            go_wp2_with fail
            rw [HOV.out]
            have hcv0 := fun c' => conv_sl (c := c') HRT.out
            have hcv3 := fun c' => conv_sl (c := c') HRT.out.drew
            have hw1 : IntKind.i64.wrap ((q : Int) + 1) = (q : Int) + 1 := IntWalk.i64_in _ (by omega)
            have hw2 : (0 : Int) ≤ (q : Int) + 1 := by omega
            have hw3 : ((q : Int) + 1).toNat = q + 1 := by omega
            have hw4 : (q : Int) + 1 ≤ (c : Int) := by omega
            go_region_with (go_at_call 8; refine (ref_uint_nil V _ HV64.out).mono ?_; rintro e w1 ⟨g, cap, rfl, hown, hb1⟩; have hcv1 := fun c' => conv_sl (c := c') (HRT.out.drew.below hb1); have hcv2 := conv_sl (c := cap) (Reads.of_own hown))
            all_goals clear hw1 hw2 hw3 hw4 hcv0 hcv1 hcv2 hcv3
            all_goals go_wp2_with fail
            all_goals go_ret3
            all_goals exact .inr ⟨ref_no hmore.out hlt (by rw [← HX.out]; exact hx128) (by rw [← HVV.out]; exact HE.out), rfl, below_undrew hb1⟩
        · go_wp2_with fail
          rw [HO.out]
          exact ⟨⟨q + 1, by go_num, by omega, by omega, Lib.hid (more_take hmore.out hlt (by rw [← HX.out]; omega)), ⟨_, Lib.hid rfl, by first | rfl | trivial⟩, by first | rfl | trivial⟩, by simp [intOf]; omega⟩
    · go_wp2_with fail
      go_ret3
      refine .inr ⟨?_, rfl, Below.refl _ _⟩
      have h := hmore.out
      rw [List.take_of_length_le (by omega)] at h
      exact nodec_end h
end Go.Proofs.Ytnhpkkmjicphgaa
