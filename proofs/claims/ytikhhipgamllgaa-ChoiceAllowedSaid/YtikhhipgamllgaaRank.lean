/- choice.Rank. Conditions: a number within its kind. -/
import Derived.Test.YtikhhipgamllgaaOrderP
import Derived.Test.YtikhhipgamllgaaCount
import Derived.Test.YtikhhipgamllgaaRightP
namespace Go.Proofs.Ytikhhipgamllgaa
open Go.RowKit
/-- has any of the first n fates no digit? -/
def wildB (c n b : Nat) : Bool := (List.range n).any fun j => decide (b ≤ fate c (n - 1 - j))
def rankN (c : Nat) (n : Int) (t : Bool) : Nat × Bool := if rightB c n = true then (if wildB c n.toNat (bs t) = true then (0, false) else (rkS (bs t) c n.toNat n.toNat, true)) else (0, false)
def rankV (c : Nat) (n : Int) (t : Bool) : Value := .tuple #[.int .u64 ((rankN c n t).1 : Nat), .bool (rankN c n t).2]
theorem wild_yes {c n b j : Nat} (hj : j < n) (h : b ≤ fate c (n - 1 - j)) : wildB c n b = true := by
  unfold wildB
  rw [List.any_eq_true]
  exact ⟨j, List.mem_range.2 hj, decide_eq_true h⟩
theorem wild_no {c n b : Nat} (h : ∀ i, i < n → fate c (n - 1 - i) < b) : wildB c n b = false := by
  unfold wildB
  rw [List.any_eq_false]
  intro j hj
  have := h j (List.mem_range.1 hj)
  simp; omega
theorem rank_step {t : Bool} {b c n j x f : Nat} (hb : b = bs t) (hn : n ≤ 32) (hj : j < n) (hx : x = rkS b c n j) (hf : f = fate c (n - 1 - j)) (hlt : f < b) (hall : ∀ i, i < j → fate c (n - 1 - i) < b) :
    IntKind.u64.wrap (IntKind.u64.wrap ((x : Int) * (b : Int)) + (f : Int)) = ((rkS b c n (j + 1) : Nat) : Int) := by
  subst hb
  have h1 := rkS_lt (b := bs t) (c := c) (n := n) (j + 1) (fun i hi => by
    rcases Nat.lt_or_ge i j with h | h
    · exact hall i h
    · obtain rfl : i = j := by omega
      rw [← hf]; exact hlt)
  have h2 := pow_bs (t := t) (k := j + 1) (by omega)
  have e : rkS (bs t) c n (j + 1) = x * bs t + f := by rw [rkS, hx, hf]
  rw [e] at h1 ⊢
  have e2 : (x : Int) * (bs t : Nat) = ((x * bs t : Nat) : Int) := by simp
  rw [e2]
  generalize x * bs t = y at *
  rw [IntWalk.u64_in (y : Int) (by omega)]
  have e3 : (y : Int) + (f : Int) = ((y + f : Nat) : Int) := by simp
  rw [e3]
  exact IntWalk.u64_in _ (by omega)
set_option maxHeartbeats 1000000 in
theorem rank_any (c : Nat) (n : Int) (t : Bool) (w : World) (hc : c < 18446744073709551616) : Calls Try.prog 19 #[.int .u64 c, .int .i64 n, .bool t] w fun o w' => o = .returned (rankV c n t) ∧ w = w' := by
  have HC := Lib.hid hc
  clear hc
  by_cases hrt : rightB c n = true
  · have hn : 0 ≤ n ∧ n ≤ 32 := by
      have h := hrt
      unfold rightB at h
      simp only [Bool.and_eq_true, decide_eq_true_eq] at h
      omega
    obtain ⟨m, rfl⟩ := Int.eq_ofNat_of_zero_le hn.1
    have hm : m ≤ 32 := by omega
    obtain ⟨b, hb⟩ : ∃ b, b = bs t := ⟨_, rfl⟩
    have HW : Hid (wildB c m b = true → rankV c m t = .tuple #[.int .u64 0, .bool false]) := Lib.hid (fun h => by unfold rankV rankN; rw [if_pos hrt]; rw [← hb]; simp [h])
    have HN : Hid (wildB c m b = false → rankV c m t = .tuple #[.int .u64 (rkS b c m m : Nat), .bool true]) := Lib.hid (fun h => by unfold rankV rankN; rw [if_pos hrt]; rw [← hb]; simp [h])
    have HBS := Lib.hid hb
    clear hn hb
    go_enter Try.func19, Try.ntmps19
    go_wp2_with (go_at_call 16; refine (right_any c _ _ HC.out).mono ?_; rintro o w' ⟨rfl, rfl⟩; rw [hrt])
    go_loopw [8, 16] (fun r i wr => ∃ j : Nat, j ≤ m ∧ i = .int .i64 j ∧ (∃ x : Nat, r = .int .u64 x ∧ Hid (x = rkS b c m j)) ∧ Hid (∀ i, i < j → fate c (m - 1 - i) < b) ∧ wr = w) (fun _ i _ => m - (intOf i).toNat)
    case atStart => exact ⟨0, by omega, rfl, ⟨0, rfl, Lib.hid rfl⟩, Lib.hid (fun i hi => absurd hi (by omega)), rfl⟩
    case round =>
      obtain ⟨j, hj, rfl, ⟨x, rfl, HX⟩, HA, rfl⟩ := hrel
      by_cases hlt : j < m
      · obtain ⟨f, hf⟩ : ∃ f, f = fate c (m - 1 - j) := ⟨_, rfl⟩
        have hfI : fateI c ((m : Int) - 1 - (j : Int)) = (f : Int) := by
          unfold fateI
          rw [if_pos (by omega), hf]
          congr 2; omega
        have hf4 : f < 4 := by rw [hf]; exact fate_lt _ _
        have HF := Lib.hid hf
        have HFI := Lib.hid hfI
        clear hf hfI
        by_cases hfb : b ≤ f
        · have HV := Lib.hid (HW.out (wild_yes hlt (by rw [← HF.out]; exact hfb)))
          go_wp2_with (first | (go_at_call 72; refine (base_any t _).mono ?_; rintro o w' ⟨rfl, rfl⟩; rw [← HBS.out]) | (go_at_call 12; refine (fate_any c _ _ HC.out).mono ?_; rintro o w' ⟨rfl, rfl⟩; rw [HFI.out]))
          go_ret2
          exact ⟨by rw [HV.out]; rfl, rfl⟩
        · go_wp2_with (first | (go_at_call 72; refine (base_any t _).mono ?_; rintro o w' ⟨rfl, rfl⟩; rw [← HBS.out]) | (go_at_call 12; refine (fate_any c _ _ HC.out).mono ?_; rintro o w' ⟨rfl, rfl⟩; rw [HFI.out]))
          rw [rank_step HBS.out hm hlt HX.out HF.out (by omega) HA.out]
          exact ⟨⟨j + 1, by omega, by go_num, ⟨_, rfl, Lib.hid rfl⟩, Lib.hid (fun i hi => by
            rcases Nat.lt_or_ge i j with h | h
            · exact HA.out i h
            · obtain rfl : i = j := by omega
              rw [← HF.out]; omega), trivial⟩, by simp [intOf]; omega⟩
      · obtain rfl : j = m := by omega
        have HV := Lib.hid (HN.out (wild_no HA.out))
        go_wp2_with fail
        go_ret2
        exact ⟨by rw [HV.out, HX.out]; rfl, rfl⟩
  · have hrf : rightB c n = false := by simpa using hrt
    have HV : Hid (rankV c n t = .tuple #[.int .u64 0, .bool false]) := Lib.hid (by unfold rankV rankN; rw [if_neg hrt]; rfl)
    clear hrt
    go_enter Try.func19, Try.ntmps19
    go_wp2_with (go_at_call 16; refine (right_any c _ _ HC.out).mono ?_; rintro o w' ⟨rfl, rfl⟩; rw [hrf])
    go_ret2
    exact ⟨by rw [HV.out]; rfl, rfl⟩
end Go.Proofs.Ytikhhipgamllgaa
