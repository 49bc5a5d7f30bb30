/- The reference's Allowed. Conditions: a number within its kind; the epochs' row reads. -/
import Derived.Test.YtikhhipgamllgaaAllow
import Derived.Test.YtikhhipgamllgaaRightR
namespace Go.Proofs.Ytikhhipgamllgaa
open Go.RowKit
set_option maxRecDepth 100000 in
set_option maxHeartbeats 2000000 in
theorem rallow_any (c : Nat) (A : Option Addr) (cap : Nat) (e : List Int) (w : World) (hc : c < 18446744073709551616) (hr : Reads w w.heap.size 1 A e.length (iz e)) :
    Calls Try.prog 28 #[.int .u64 c, .slice A e.length cap] w fun o w' => o = .returned (.bool (allowB c e)) ∧ Below w.heap.size w w' := by
  have HC := Lib.hid hc
  have HR := Lib.hid hr
  clear hc hr
  obtain ⟨n, hn⟩ : ∃ n, n = e.length := ⟨_, rfl⟩
  rw [← hn]
  by_cases hrt : rightB c n = true
  · have hn32 : n ≤ 32 := by
      unfold rightB at hrt
      simp only [Bool.and_eq_true, decide_eq_true_eq] at hrt
      omega
    have HA : Hid (allowB c e = alB c e) := Lib.hid (by unfold allowB; rw [← hn, hrt]; rfl)
    have HN := Lib.hid hn
    clear hn
    have hz := zeros
    go_enter Try.func28, Try.ntmps28
    go_wp2_with (first | (go_at_call 17; refine (rright_any c _ _ HC.out).mono ?_; rintro o w1 ⟨rfl, hb1⟩; rw [hrt]) | (go_at_call 70; refine (fates_any c _ HC.out).mono ?_; rintro e w' ⟨rfl, hb⟩) | (refine wpList_store_row rfl 112 _ _ rfl w'.heap.size (iv (fates c)) rfl rfl 112 _ (Blk.new w' 112 _) (by rw [size112, iv_size, fates_len]) (by rw [iv_size, fates_len]; rfl) (iv_one _) ?_; generalize hw2 : World.setRow _ _ _ = w2; have hB : Blk w2 w'.heap.size 112 (iv (fates c)) := (by rw [← hw2]; exact setRow_heap _ _ _ _ _ _ (Blk.new _ _ _)); have HB := Lib.hid hB; have HZ := Lib.hid hw2; clear hB hw2))
    have s1 := hb1.size
    have hb2 : Below w.heap.size w w' := hb1.trans (hb.mono s1)
    have hs := hb2.size
    have hb3 : Below w.heap.size w w2 := by
      rw [← HZ.out]
      exact below_setRow (hb2.alloc hs _) hs
    have HB3 := Lib.hid hb3
    clear HZ hz hb hb1 hb2 hb3 s1
    generalize w'.heap.size = g at *
    go_loopw [6] (fun i wr => ∃ j : Nat, j ≤ n ∧ i = .int .i64 (j : Int) ∧ Hid (∀ i, i < j → ∀ k, k < n → badB c e i k = false) ∧ Hid (Blk wr g 112 (iv (fates c))) ∧ Hid (Below w.heap.size w wr)) (fun i _ => n - (intOf i).toNat)
    case atStart => exact ⟨0, by omega, rfl, Lib.hid (fun i hi => absurd hi (by omega)), HB, HB3⟩
    case round =>
      obtain ⟨j, hj, rfl, HO, HF, HBl⟩ := hrel
      by_cases hjn : j < n
      · go_wp2_with fail
        go_loopw [7] (fun i wq => ∃ k : Nat, k ≤ n ∧ i = .int .i64 (k : Int) ∧ Hid (∀ x, x < k → badB c e j x = false) ∧ Hid (Blk wq g 112 (iv (fates c))) ∧ Hid (Below w.heap.size w wq)) (fun i _ => n - (intOf i).toNat)
        case atStart => exact ⟨0, by omega, rfl, Lib.hid (fun i hi => absurd hi (by omega)), HF, HBl⟩
        case round =>
          obtain ⟨k, hk, rfl, HP, HF2, HBl2⟩ := hrel
          by_cases hkn : k < n
          · have hk32 : k < 32 := by omega
            have hj32 : j < 32 := by omega
            have hr2 := HR.out.below HBl2.out
            obtain ⟨ad, rfl, hb, hek⟩ := hr2.epoch (k := k) (by rw [← HN.out]; exact hkn)
            obtain ⟨ad', hA', _, hej⟩ := hr2.epoch (k := j) (by rw [← HN.out]; exact hjn)
            obtain rfl : ad = ad' := by injection hA'
            obtain ⟨f, hf⟩ : ∃ f, f = fate c k := ⟨_, rfl⟩
            obtain ⟨h, hh⟩ : ∃ h, h = fate c j := ⟨_, rfl⟩
            obtain ⟨x, hx⟩ : ∃ x, x = e.getD j 0 := ⟨_, rfl⟩
            obtain ⟨y, hy⟩ : ∃ y, y = e.getD k 0 := ⟨_, rfl⟩
            have hck : wr.cell? ⟨g, k, none⟩ = some (.int .i64 (f : Nat)) := by rw [HF2.out.cell k, fates_get? hk32, hf]
            have hcj : wr.cell? ⟨g, j, none⟩ = some (.int .i64 (h : Nat)) := by rw [HF2.out.cell j, fates_get? hj32, hh]
            rw [← hx] at hej
            rw [← hy] at hek
            have HBAD : Hid (badB c e j k = (f != 0 && decide (x < y) && h != 1)) := Lib.hid (by unfold badB; rw [← hf, ← hh, ← hx, ← hy])
            have step : badB c e j k = false → Hid (∀ x, x < k + 1 → badB c e j x = false) := fun hb => Lib.hid (fun x hx => by
              rcases Nat.lt_or_ge x k with h3 | h3
              · exact HP.out x h3
              · obtain rfl : x = k := by omega
                exact hb)
            clear hf hh hx hy hr2 hA'
            by_cases hf0 : f = 0
            · have HNX := step (by rw [HBAD.out, hf0]; rfl)
              subst hf0
              clear step
              go_wp2_with fail
              go_region
              all_goals (go_wp2_with fail)
              all_goals (exact ⟨⟨k + 1, by omega, by go_num, HNX, Lib.hid HF2.out.drew, Lib.hid HBl2.out.drew⟩, by simp [intOf]; omega⟩)
            · have q0 : ((f : Int) != 0) = true := by rw [bne_iff_ne]; omega
              have p0 : (f != 0) = true := by rw [bne_iff_ne]; exact hf0
              have P0 := Lib.hid p0
              clear hf0 p0
              by_cases hxy : x < y
              · by_cases h1 : h = 1
                · have HNX := step (by rw [HBAD.out, h1]; simp)
                  subst h1
                  clear step
                  go_wp2_with fail
                  go_region
                  all_goals (go_wp2_with fail)
                  all_goals (exact ⟨⟨k + 1, by omega, by go_num, HNX, Lib.hid HF2.out.drew, Lib.hid HBl2.out.drew⟩, by simp [intOf]; omega⟩)
                · have q1 : ((h : Int) != 1) = true := by rw [bne_iff_ne]; omega
                  have hbad : badB c e j k = true := by rw [HBAD.out, P0.out]; simp [hxy, h1]
                  have HV : Hid (alB c e = false) := Lib.hid (by
                    cases ha : alB c e with
                    | false => rfl
                    | true =>
                      have := (alB_iff c e).1 ha j (by rw [← HN.out]; exact hjn) k (by rw [← HN.out]; exact hkn)
                      rw [hbad] at this; cases this)
                  clear step h1 hbad
                  go_wp2_with fail
                  go_region
                  all_goals (go_wp2_with fail)
                  all_goals (go_ret; exact ⟨by rw [HA.out, HV.out]; rfl, HBl2.out.drew⟩)
              · have HNX := step (by rw [HBAD.out]; simp [hxy])
                have hxd : decide (x < y) = false := decide_eq_false hxy
                have hyx : y ≤ x := by omega
                clear step hxy
                go_wp2_with fail
                go_region
                all_goals (go_wp2_with fail)
                all_goals (exact ⟨⟨k + 1, by omega, by go_num, HNX, Lib.hid HF2.out.drew, Lib.hid HBl2.out.drew⟩, by simp [intOf]; omega⟩)
          · obtain rfl : k = n := by omega
            go_wp2_with fail
            exact ⟨⟨j + 1, by omega, by go_num, Lib.hid (fun i hi => by
              rcases Nat.lt_or_ge i j with h3 | h3
              · exact HO.out i h3
              · obtain rfl : i = j := by omega
                exact HP.out), HF2, HBl2⟩, by simp [intOf]; omega⟩
      · obtain rfl : j = n := by omega
        have HV : Hid (alB c e = true) := Lib.hid (by rw [alB_iff, ← HN.out]; exact HO.out)
        go_wp2_with fail
        go_ret
        exact ⟨by rw [HA.out, HV.out]; rfl, HBl.out⟩
  · have hrf : rightB c n = false := by simpa using hrt
    have HA : Hid (allowB c e = false) := Lib.hid (by unfold allowB; rw [← hn, hrf]; rfl)
    have HN := Lib.hid hn
    clear hn hrt
    go_enter Try.func28, Try.ntmps28
    go_wp2_with (go_at_call 17; refine (rright_any c _ _ HC.out).mono ?_; rintro o w1 ⟨rfl, hb1⟩; rw [hrf])
    go_ret
    exact ⟨by rw [HA.out]; rfl, hb1⟩
end Go.Proofs.Ytikhhipgamllgaa
