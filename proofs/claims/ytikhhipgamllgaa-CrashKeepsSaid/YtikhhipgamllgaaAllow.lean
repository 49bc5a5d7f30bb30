/- choice.Allowed. Conditions: a number within its kind; the epochs' row below B. -/
import Derived.Test.YtikhhipgamllgaaAllowP
import Derived.Test.YtikhhipgamllgaaRightP
import Derived.Deep.DeepMust
namespace Go.Proofs.Ytikhhipgamllgaa
open Go.RowKit
def iz (l : List Int) : List Value := l.map fun x => .int .i64 x
theorem iz_len (l : List Int) : (iz l).length = l.length := by simp [iz]
theorem fateI_at (c k : Nat) (h : k < 32) : fateI c k = (fate c k : Nat) := by
  unfold fateI
  rw [if_pos (by omega)]; rfl
/-- the k-th epoch -/
theorem Reads.epoch {w : World} {B : Nat} {A : Option Addr} {e : List Int} (h : Reads w B 1 A e.length (iz e)) {k : Nat} (hk : k < e.length) : ∃ ad, A = some ad ∧ ad.block < B ∧ w.cell? (ad.add k) = some (.int .i64 (e.getD k 0)) := by
  obtain ⟨ad, u, hA, hb, hu, hc⟩ := h.at_ hk
  refine ⟨ad, hA, hb, ?_⟩
  rw [hc]
  simp [iz, hk] at hu
  rw [← hu]
  simp [List.getD, hk]
set_option maxHeartbeats 2000000 in
theorem allow_any (c : Nat) (A : Option Addr) (cap : Nat) (e : List Int) (w : World) (hc : c < 18446744073709551616) (hr : Reads w w.heap.size 1 A e.length (iz e)) :
    Calls Try.prog 27 #[.int .u64 c, .slice A e.length cap] w fun o w' => o = .returned (.bool (allowB c e)) ∧ w = w' := by
  have HC := Lib.hid hc
  have HR := Lib.hid hr
  clear hc hr
  obtain ⟨n, hn⟩ : ∃ n, n = e.length := ⟨_, rfl⟩
  rw [← hn]
  by_cases hrt : rightB c n = true
  · have hn32 : n ≤ 32 := by
      unfold rightB at hrt
      simp only [Bool.and_eq_true, decide_eq_true_eq] at hrt
      omega
    have HA : Hid (allowB c e = alB c e) := Lib.hid (by unfold allowB; rw [← hn, hrt]; rfl)
    have HN := Lib.hid hn
    clear hn
    have hrt' := hrt
    go_enter Try.func27, Try.ntmps27
    go_wp2_with (go_at_call 16; refine (right_any c _ _ HC.out).mono ?_; rintro o w' ⟨rfl, rfl⟩; rw [hrt])
    go_loopw [5, 6, 18] (fun lo s i wr => ∃ k : Nat, k ≤ n ∧ i = .int .i64 k ∧ (∃ (x : Int) (b : Bool), lo = .int .i64 x ∧ s = .bool b ∧ Hid (LowInv c e k b x)) ∧ wr = w) (fun _ _ i _ => n - (intOf i).toNat)
    case atStart => exact ⟨0, by omega, rfl, ⟨0, false, rfl, rfl, Lib.hid (LowInv.zero c e)⟩, rfl⟩
    case round =>
      obtain ⟨k, hk, rfl, ⟨lo, s, rfl, rfl, HL⟩, rfl⟩ := hrel
      by_cases hlt : k < n
      · have hk32 : k < 32 := by omega
        obtain ⟨ad, rfl, hb, hcell⟩ := HR.out.epoch (k := k) (by rw [← HN.out]; exact hlt)
        obtain ⟨x, hx⟩ : ∃ x, x = e.getD k 0 := ⟨_, rfl⟩
        rw [← hx] at hcell
        obtain ⟨f, hf⟩ : ∃ f, f = fate c k := ⟨_, rfl⟩
        have HX := Lib.hid hx
        have HF := Lib.hid hf
        clear hx hf
        by_cases hf0 : f = 0
        · have HI := Lib.hid (HL.out.same (.inl (by rw [← HF.out, hf0])))
          subst hf0
          go_wp2_with (go_at_call 12; refine (fate_any c _ _ HC.out).mono ?_; rintro o w' ⟨rfl, rfl⟩; rw [fateI_at c k hk32, ← HF.out])
          exact ⟨⟨k + 1, by omega, by go_num, ⟨lo, s, rfl, rfl, HI⟩, trivial⟩, by simp [intOf]; omega⟩
        · have hq : ((f : Int) != 0) = true := by rw [bne_iff_ne]; omega
          have hfn : fate c k ≠ 0 := by rw [← HF.out]; exact hf0
          have HFN := Lib.hid hfn
          clear hfn hf0
          cases s
          · have HI := Lib.hid (HL.out.up HX.out HFN.out (.inl rfl))
            go_wp2_with (go_at_call 12; refine (fate_any c _ _ HC.out).mono ?_; rintro o w' ⟨rfl, rfl⟩; rw [fateI_at c k hk32, ← HF.out])
            exact ⟨⟨k + 1, by omega, by go_num, ⟨x, true, rfl, rfl, HI⟩, trivial⟩, by simp [intOf]; omega⟩
          · by_cases hgt : lo < x
            · have HI := Lib.hid (HL.out.up HX.out HFN.out (.inr hgt))
              go_wp2_with (go_at_call 12; refine (fate_any c _ _ HC.out).mono ?_; rintro o w' ⟨rfl, rfl⟩; rw [fateI_at c k hk32, ← HF.out])
              exact ⟨⟨k + 1, by omega, by go_num, ⟨x, true, rfl, rfl, HI⟩, trivial⟩, by simp [intOf]; omega⟩
            · have HI := Lib.hid (HL.out.same (.inr ⟨rfl, by rw [← HX.out]; omega⟩))
              go_wp2_with (go_at_call 12; refine (fate_any c _ _ HC.out).mono ?_; rintro o w' ⟨rfl, rfl⟩; rw [fateI_at c k hk32, ← HF.out])
              exact ⟨⟨k + 1, by omega, by go_num, ⟨lo, true, rfl, rfl, HI⟩, trivial⟩, by simp [intOf]; omega⟩
      · obtain rfl : k = n := by omega
        go_wp2_with fail
        go_loopw [40] (fun i w2 => ∃ j : Nat, j ≤ k ∧ i = .int .i64 j ∧ Hid (∀ x, x < j → okJ c e s lo x) ∧ w2 = wr) (fun i _ => k - (intOf i).toNat)
        case atStart => exact ⟨0, by omega, rfl, Lib.hid (fun x hx => absurd hx (by omega)), rfl⟩
        case round =>
          obtain ⟨j, hj, rfl, HO, rfl⟩ := hrel
          by_cases hjk : j < k
          · have hj32 : j < 32 := by omega
            obtain ⟨ad, rfl, hb, hcell⟩ := HR.out.epoch (k := j) (by rw [← HN.out]; exact hjk)
            obtain ⟨x, hx⟩ : ∃ x, x = e.getD j 0 := ⟨_, rfl⟩
            rw [← hx] at hcell
            obtain ⟨f, hf⟩ : ∃ f, f = fate c j := ⟨_, rfl⟩
            have HX := Lib.hid hx
            have HF := Lib.hid hf
            clear hx hf
            have step : okJ c e s lo j → Hid (∀ x, x < j + 1 → okJ c e s lo x) := fun h => Lib.hid (fun x hx => by
              rcases Nat.lt_or_ge x j with h3 | h3
              · exact HO.out x h3
              · obtain rfl : x = j := by omega
                exact h)
            cases s
            · have HI := step (fun h => by cases h)
              clear step
              go_wp2_with fail
              exact ⟨⟨j + 1, by omega, by go_num, HI, trivial⟩, by simp [intOf]; omega⟩
            · by_cases hlo : x < lo
              · by_cases hf1 : f = 1
                · have HI := step (fun _ _ => by rw [← HF.out, hf1])
                  clear step
                  subst hf1
                  go_wp2_with (go_at_call 12; refine (fate_any c _ _ HC.out).mono ?_; rintro o w' ⟨rfl, rfl⟩; rw [fateI_at c j hj32, ← HF.out])
                  exact ⟨⟨j + 1, by omega, by go_num, HI, trivial⟩, by simp [intOf]; omega⟩
                · have hq : ((f : Int) != 1) = true := by rw [bne_iff_ne]; omega
                  have HB : Hid (alB c e = false) := Lib.hid (allow_not (by rw [← HN.out]; exact HL.out) (by rw [← HN.out]; exact hjk) (by rw [← HX.out]; exact hlo) (by rw [← HF.out]; exact hf1))
                  clear step hf1
                  go_wp2_with (go_at_call 12; refine (fate_any c _ _ HC.out).mono ?_; rintro o w' ⟨rfl, rfl⟩; rw [fateI_at c j hj32, ← HF.out])
                  go_ret
                  exact ⟨by rw [HA.out, HB.out]; rfl, rfl⟩
              · have HI := step (fun _ h => absurd h (by rw [← HX.out]; exact hlo))
                clear step
                go_wp2_with fail
                exact ⟨⟨j + 1, by omega, by go_num, HI, trivial⟩, by simp [intOf]; omega⟩
          · obtain rfl : j = k := by omega
            have HB : Hid (alB c e = true) := Lib.hid (allow_of (by rw [← HN.out]; exact HL.out) (by rw [← HN.out]; exact HO.out))
            go_wp2_with fail
            go_ret
            exact ⟨by rw [HA.out, HB.out]; rfl, rfl⟩
  · have hrf : rightB c n = false := by simpa using hrt
    have HA : Hid (allowB c e = false) := Lib.hid (by unfold allowB; rw [← hn, hrf]; rfl)
    have HN := Lib.hid hn
    clear hn hrt
    go_enter Try.func27, Try.ntmps27
    go_wp2_with (go_at_call 16; refine (right_any c _ _ HC.out).mono ?_; rintro o w' ⟨rfl, rfl⟩; rw [hrf])
    go_ret
    exact ⟨by rw [HA.out]; rfl, rfl⟩
end Go.Proofs.Ytikhhipgamllgaa
