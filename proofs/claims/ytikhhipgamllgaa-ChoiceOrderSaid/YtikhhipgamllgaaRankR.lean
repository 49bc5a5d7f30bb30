/- The reference's Rank. Conditions: a number within its kind. -/
import Derived.Test.YtikhhipgamllgaaRank
import Derived.Test.YtikhhipgamllgaaRightR
import Derived.Deep.RegionWith
namespace Go.Proofs.Ytikhhipgamllgaa
open Go.RowKit
set_option maxRecDepth 100000 in
set_option maxHeartbeats 2000000 in
theorem rrank_any (c : Nat) (n : Int) (t : Bool) (w : World) (hc : c < 18446744073709551616) : Calls Try.prog 20 #[.int .u64 c, .int .i64 n, .bool t] w fun o w' => o = .returned (rankV c n t) ∧ Below w.heap.size w w' := by
  have HC := Lib.hid hc
  clear hc
  by_cases hrt : rightB c n = true
  · have hn : 0 ≤ n ∧ n ≤ 32 := by
      have h := hrt
      unfold rightB at h
      simp only [Bool.and_eq_true, decide_eq_true_eq] at h
      omega
    obtain ⟨m, rfl⟩ := Int.eq_ofNat_of_zero_le hn.1
    have hm : m ≤ 32 := by omega
    have H3 := Lib.hid ((rightB_iff hm).1 hrt).1
    obtain ⟨b, hb⟩ : ∃ b, b = bs t := ⟨_, rfl⟩
    have HW : Hid (wildB c m b = true → rankV c m t = .tuple #[.int .u64 0, .bool false]) := Lib.hid (fun h => by unfold rankV rankN; rw [if_pos hrt]; rw [← hb]; simp [h])
    have HN : Hid (wildB c m b = false → rankV c m t = .tuple #[.int .u64 (rkS b c m m : Nat), .bool true]) := Lib.hid (fun h => by unfold rankV rankN; rw [if_pos hrt]; rw [← hb]; simp [h])
    have HBS := Lib.hid hb
    clear hn hb
    have hz := zeros
    go_enter Try.func20, Try.ntmps20
    go_wp2_with (first | (go_at_call 17; refine (rright_any c _ _ HC.out).mono ?_; rintro o w1 ⟨rfl, hb1⟩; rw [hrt]) | (go_at_call 70; refine (fates_any c _ HC.out).mono ?_; rintro e w' ⟨rfl, hb⟩) | (refine wpList_store_row rfl 112 _ _ rfl w'.heap.size (iv (fates c)) rfl rfl 112 _ (Blk.new w' 112 _) (by rw [size112, iv_size, fates_len]) (by rw [iv_size, fates_len]; rfl) (iv_one _) ?_; generalize hw2 : World.setRow _ _ _ = w2; have hB : Blk w2 w'.heap.size 112 (iv (fates c)) := (by rw [← hw2]; exact setRow_heap _ _ _ _ _ _ (Blk.new _ _ _)); have HB := Lib.hid hB; have HZ := Lib.hid hw2; clear hB hw2))
    have s1 := hb1.size
    have hb2 : Below w.heap.size w w' := hb1.trans (hb.mono s1)
    have hs := hb2.size
    have hb3 : Below w.heap.size w w2 := by
      rw [← HZ.out]
      exact below_setRow (hb2.alloc hs _) hs
    have HB3 := Lib.hid hb3
    clear HZ hz hb hb1 hb2 hb3 s1
    generalize w'.heap.size = g at *
    go_loopw [9, 10] (fun r i wr => ∃ p : Nat, p ≤ m ∧ i = .int .i64 ((p : Int) - 1) ∧ (∃ x : Nat, r = .int .u64 x ∧ Hid (x = rkS b c m (m - p))) ∧ Hid (∀ i, i < m - p → fate c (m - 1 - i) < b) ∧ Hid (Blk wr g 112 (iv (fates c))) ∧ Hid (Below w.heap.size w wr)) (fun _ i _ => (intOf i + 1).toNat)
    case atStart =>
      refine ⟨m, by omega, rfl, ⟨0, rfl, Lib.hid (by rw [Nat.sub_self]; rfl)⟩, Lib.hid (fun i hi => absurd hi (by omega)), HB, HB3⟩
    case round =>
      obtain ⟨p, hp, rfl, ⟨x, rfl, HX⟩, HA, HF, HBl⟩ := hrel
      by_cases hp0 : p = 0
      · subst hp0
        have HV := Lib.hid (HN.out (wild_no (by have := HA.out; simpa using this)))
        go_wp2_with fail
        go_ret2
        exact ⟨by rw [HV.out, HX.out]; rfl, HBl.out⟩
      · obtain ⟨q, rfl⟩ : ∃ q, p = q + 1 := ⟨p - 1, by omega⟩
        have e1 : ((q + 1 : Nat) : Int) - 1 = (q : Int) := by omega
        rw [e1]
        have hq32 : q < 32 := by omega
        obtain ⟨f, hf⟩ : ∃ f, f = fate c q := ⟨_, rfl⟩
        have hcell : wr.cell? ⟨g, q, none⟩ = some (.int .i64 (f : Nat)) := by rw [HF.out.cell q, fates_get? hq32, hf]
        have hf3 : f < 3 := by
          have h1 := fate_lt c q
          have h2 := H3.out q hq32
          omega
        have HFF := Lib.hid hf
        have hj : m - 1 - (m - (q + 1)) = q := by omega
        have HJ := Lib.hid hj
        clear hf hp0 e1 hj
        by_cases hw : f = 2 ∧ t = false
        · obtain ⟨rfl, rfl⟩ := hw
          have HV := Lib.hid (HW.out (wild_yes (j := m - (q + 1)) (by omega) (by rw [HJ.out, ← HFF.out, HBS.out]; decide)))
          go_wp2_with fail
          go_ret2
          exact ⟨by rw [HV.out]; rfl, HBl.out⟩
        · have hfb : f < b := by
            rw [HBS.out]
            cases t
            · have : f ≠ 2 := fun h => hw ⟨h, rfl⟩
              show f < 2; omega
            · show f < 3; omega
          have HST := Lib.hid (rank_step (j := m - (q + 1)) HBS.out hm (by omega) HX.out (by rw [HJ.out]; exact HFF.out) hfb HA.out)
          have e5 : m - (q + 1) + 1 = m - q := by omega
          rw [e5] at HST
          have HFB := Lib.hid hfb
          have hdec : ((f : Int) == 2 && !t) = false := by
            cases t
            · have : f ≠ 2 := fun h => hw ⟨h, rfl⟩
              have : ((f : Int) == 2) = false := by rw [beq_eq_false_iff_ne]; omega
              rw [this]; rfl
            · simp
          have hcd := fun k => (show (wr.drewN k).cell? ⟨g, q, none⟩ = some (.int .i64 (f : Nat)) from hcell)
          have HDEC := Lib.hid hdec
          clear hfb hw hdec
          have hnext : ∀ x' : Nat, x' = rkS b c m (m - q) → Hid (∀ i, i < m - q → fate c (m - 1 - i) < b) := fun _ _ => Lib.hid (fun i hi => by
            rcases Nat.lt_or_ge i (m - (q + 1)) with h | h
            · exact HA.out i h
            · obtain rfl : i = m - (q + 1) := by omega
              rw [HJ.out, ← HFF.out]; exact HFB.out)
          have HNX := Lib.hid hnext
          clear hnext hcd
          cases t
          · have hq2 : ((f : Int) == 2) = false := by have := HDEC.out; simpa using this
            go_wp2_with fail
            go_region_with (go_at_call 73; refine (rbase_any _ _).mono ?_; rintro o w' ⟨rfl, rfl⟩; rw [← HBS.out])
            all_goals (go_wp2_with fail)
            all_goals (rw [HST.out]; exact ⟨⟨q, by omega, rfl, ⟨_, rfl, Lib.hid rfl⟩, HNX.out _ rfl, Lib.hid HF.out.drew, Lib.hid HBl.out.drew⟩, by simp [intOf]⟩)
          · by_cases hf2 : f = 2
            · have hq2 : ((f : Int) == 2) = true := by rw [hf2]; rfl
              have hst : IntKind.u64.wrap (IntKind.u64.wrap ((x : Int) * (b : Int)) + 2) = ((rkS b c m (m - q) : Nat) : Int) := by
                have h := HST.out
                rw [hf2] at h
                exact h
              have HST := Lib.hid hst
              clear hst
              go_wp2_with fail
              go_region_with (go_at_call 73; refine (rbase_any _ _).mono ?_; rintro o w' ⟨rfl, rfl⟩; rw [← HBS.out])
              all_goals (go_wp2_with fail)
              all_goals (rw [HST.out]; exact ⟨⟨q, by omega, rfl, ⟨_, rfl, Lib.hid rfl⟩, HNX.out _ rfl, Lib.hid HF.out.drew, Lib.hid HBl.out.drew⟩, by simp [intOf]⟩)
            · have hq2 : ((f : Int) == 2) = false := by rw [beq_eq_false_iff_ne]; omega
              go_wp2_with fail
              go_region_with (go_at_call 73; refine (rbase_any _ _).mono ?_; rintro o w' ⟨rfl, rfl⟩; rw [← HBS.out])
              all_goals (go_wp2_with fail)
              all_goals (rw [HST.out]; exact ⟨⟨q, by omega, rfl, ⟨_, rfl, Lib.hid rfl⟩, HNX.out _ rfl, Lib.hid HF.out.drew, Lib.hid HBl.out.drew⟩, by simp [intOf]⟩)
  · have hrf : rightB c n = false := by simpa using hrt
    have HV : Hid (rankV c n t = .tuple #[.int .u64 0, .bool false]) := Lib.hid (by unfold rankV rankN; rw [if_neg hrt]; rfl)
    clear hrt
    go_enter Try.func20, Try.ntmps20
    go_wp2_with (go_at_call 17; refine (rright_any c _ _ HC.out).mono ?_; rintro o w1 ⟨rfl, hb1⟩; rw [hrf])
    go_ret2
    exact ⟨by rw [HV.out]; rfl, hb1⟩
end Go.Proofs.Ytikhhipgamllgaa
