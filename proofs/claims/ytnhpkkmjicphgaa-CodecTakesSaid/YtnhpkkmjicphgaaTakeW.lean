/- codec.TakeUint: the walk. Conditions: at most 2^39 bytes. -/
import Derived.Test.YtnhpkkmjicphgaaTake
namespace Go.Proofs.Ytnhpkkmjicphgaa
open Go.RowKit
set_option maxRecDepth 100000 in
set_option maxHeartbeats 1000000 in
theorem codec_take_some (b off k c : Nat) (l : List UInt8) (w : World) (hkl : k = l.length) (hr : Reads w w.heap.size 1 (some ⟨b, off, none⟩) k (vb l)) (hcell : ∀ j (hj : j < l.length), w.cell? ⟨b, off + j, none⟩ = some (.int .u8 (l[j].toNat : Int))) (hkc : k ≤ c) (hk : k ≤ 549755813888) :
    Calls Try.prog 13 #[.slice (some ⟨b, off, none⟩) k c] w (TakePost w l) := by
  subst hkl
  have HC := Lib.hid hcell; clear hcell
  have HR := Lib.hid hr; clear hr
  go_enter Try.func13, Try.ntmps13
  go_wp2_with fail
  go_step3
  go_wp2_with fail
  go_step3
  go_wp2_with fail
  go_loopw [5, 6, 12] (fun n at_ i wr => ∃ (q : Nat), i = .int .i64 q ∧ q ≤ l.length ∧ q ≤ 10 ∧ Hid (More (l.take q)) ∧ (∃ v : Nat, Hid (v = val (l.take q)) ∧ n = .int .u64 v) ∧ at_ = .int .u64 (7 * (q : Int)) ∧ wr = w) (fun _ _ i _ => l.length - (intOf i).toNat)
  case atStart => exact ⟨0, rfl, Nat.zero_le _, by omega, Lib.hid (by intro b hb; simp at hb), ⟨0, Lib.hid (by simp [val]), rfl⟩, rfl, rfl⟩
  case round =>
    obtain ⟨q, rfl, hql, hq10, hmore, ⟨v, HV, rfl⟩, rfl, rfl⟩ := hrel
    by_cases hlt : q < l.length
    · obtain ⟨x, hx⟩ : ∃ x : Nat, x = l[q].toNat := ⟨_, rfl⟩
      have hc := HC.out q hlt
      rw [← hx] at hc
      have hx256 : x < 256 := by rw [hx]; exact l[q].toNat_lt
      have HX := Lib.hid hx; clear hx
      by_cases h10 : q = 10
      · have H10 := Lib.hid h10
        have h10' : 10 ≤ q := by omega
        clear h10
        go_wp2_with fail
        try rw [Exit.noGoto_ret]
        go_ret3
        exact .inr ⟨no_wide hmore.out hlt (.inl h10'), rfl, Below.refl _ _⟩
      · have hq9 : q ≤ 9 := by omega
        clear h10
        have e1 := andNot128 hx256
        have ht := wide_test (x := x) hq9
        by_cases hw : 18446744073709551616 ≤ (x % 128) * 128 ^ q
        · rw [decide_eq_true hw] at ht
          have HW := Lib.hid hw; clear hw
          go_wp2_with fail
          try rw [Exit.noGoto_ret]
          go_ret3
          exact .inr ⟨no_wide hmore.out hlt (.inr (by rw [← HX.out]; exact HW.out)), rfl, Below.refl _ _⟩
        · rw [decide_eq_false hw] at ht
          have HW := Lib.hid hw; clear hw
          by_cases hz : x = 0 ∧ 0 < q
          · obtain ⟨hz0, hz1⟩ := hz
            have hz2 : ((x : Int) == 0) = true := by simp [hz0]
            have HZ := Lib.hid hz0
            clear hz0
            go_wp2_with fail
            try rw [Exit.noGoto_ret]
            go_ret3
            exact .inr ⟨no_zero hmore.out hlt (by rw [← HX.out]; exact HZ.out) hz1, rfl, Below.refl _ _⟩
          · have HZ := Lib.hid hz; clear hz
            have HO := Lib.hid (fun h => or_step (a := v) (x := x) (q := q) h hq9 (by have := HW.out; omega))
            have HV2 : Hid (bits .or .u64 (v : Int) (IntKind.u64.wrap ((x : Int) % 128 * 2 ^ (7 * q))) = ((val (l.take (q + 1)) : Nat) : Int)) := by
              have h1 := HO.out (by rw [HV.out]; exact val_take_lt l q)
              refine Lib.hid (h1.trans ?_)
              rw [val_take hlt, HV.out, HX.out]
            have HF : Hid (val (l.take (q + 1)) < 18446744073709551616) := Lib.hid (val_fits hlt hq9 (by rw [← HX.out]; exact HW.out))
            have HV4 : Hid (x < 128 → bits .or .u64 (v : Int) (IntKind.u64.wrap ((x : Int) * 2 ^ (7 * q))) = ((val (l.take (q + 1)) : Nat) : Int)) := Lib.hid (fun h => by
              have e : ((x : Int) % 128) = x := by omega
              have h2 := HV2.out
              rw [e] at h2
              exact h2)
            have HV3 : Hid (x = 0 → bits .or .u64 (v : Int) 0 = ((val (l.take (q + 1)) : Nat) : Int)) := Lib.hid (fun h => by
              have h2 := HV4.out (by omega)
              rw [h] at h2
              simpa [IntKind.wrap_u64] using h2)
            clear HO HW
            by_cases hx128 : x < 128
            · have HY : Hid (l = enc (val (l.take (q + 1))) ++ l.drop (q + 1)) := Lib.hid (yes_at hmore.out hlt (by rw [← HX.out]; exact hx128) (by rw [← HX.out]; exact HZ.out))
              by_cases hz0 : x = 0
              · have hq0 : q ≤ 0 := by have := HZ.out; omega
                have hx0 : x ≤ 0 := by omega
                clear hz0
                go_wp2_with fail
                all_goals (refine (clone_post (bytes_clone _ _ _ (l.drop (q + 1)) _ (by first | exact reads_drop0 (by omega) | exact reads_drop HR.out (by omega)) (by omega))).mono ?_; rintro e w' ⟨A', c', rfl, hc', hr', hb'⟩; go_wp2_with fail; try rw [Exit.noGoto_ret])
                all_goals (first | rw [HV2.out] | rw [HV4.out hx128] | rw [HV3.out (by omega)])
                all_goals (go_ret3; exact .inl ⟨_, _, HF.out, HY.out, A', c', by simp only [List.length_drop]; rfl, hc', hr', hb'⟩)
              · have hx0 : 1 ≤ x := by omega
                clear hz0
                go_wp2_with fail
                all_goals (refine (clone_post (bytes_clone _ _ _ (l.drop (q + 1)) _ (by first | exact reads_drop0 (by omega) | exact reads_drop HR.out (by omega)) (by omega))).mono ?_; rintro e w' ⟨A', c', rfl, hc', hr', hb'⟩; go_wp2_with fail; try rw [Exit.noGoto_ret])
                all_goals (first | rw [HV2.out] | rw [HV4.out hx128] | rw [HV3.out (by omega)])
                all_goals (go_ret3; exact .inl ⟨_, _, HF.out, HY.out, A', c', by simp only [List.length_drop]; rfl, hc', hr', hb'⟩)
            · have hx0 : 1 ≤ x := by omega
              go_wp2_with fail
              rw [HV2.out]
              exact ⟨⟨q + 1, by go_num, by omega, by omega, Lib.hid (more_take hmore.out hlt (by rw [← HX.out]; omega)), ⟨_, Lib.hid rfl, by first | rfl | trivial⟩, by go_num, by first | rfl | trivial⟩, by simp [intOf]; omega⟩
    · go_wp2_with fail
      try rw [Exit.noGoto_ret]
      go_ret3
      refine .inr ⟨?_, rfl, Below.refl _ _⟩
      have h := hmore.out
      rw [List.take_of_length_le (by omega)] at h
      exact nodec_end h
end Go.Proofs.Ytnhpkkmjicphgaa
