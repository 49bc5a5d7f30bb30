/- The reference's Right. Conditions: numbers within their kinds. -/
import Derived.Test.YtikhhipgamllgaaRightP
import Derived.Test.YtikhhipgamllgaaOf
namespace Go.Proofs.Ytikhhipgamllgaa
open Go.RowKit
/-- is fate i one that a choice of n may have -/
def goodB (c : Nat) (n : Int) (i : Nat) : Bool := fate c i != 3 && (decide ((i : Int) < n) || fate c i == 0)
theorem right_bad {c k : Nat} {n : Int} (hk : k < 32) (h : goodB c n k = false) : rightB c n = false := by
  cases hr : rightB c n with
  | false => rfl
  | true =>
    unfold rightB at hr
    simp only [Bool.and_eq_true, List.all_eq_true, List.mem_range] at hr
    have := hr.2 k hk
    have h' : goodB c n k = true := by unfold goodB; simpa using this
    rw [h'] at h; cases h
theorem right_good {c : Nat} {n : Int} (h0 : 0 ≤ n) (h1 : n ≤ 32) (h : ∀ i, i < 32 → goodB c n i = true) : rightB c n = true := by
  unfold rightB
  simp only [Bool.and_eq_true, decide_eq_true_eq, List.all_eq_true, List.mem_range]
  exact ⟨⟨h0, h1⟩, fun i hi => by have := h i hi; unfold goodB at this; simpa using this⟩
theorem fates_get? {c j : Nat} (hj : j < 32) : (iv (fates c))[j]? = some (.int .i64 (fate c j : Nat)) := by
  rw [iv_get _ _ (by rw [fates_len]; exact hj)]
  have := fates_get (c := c) hj
  rw [List.getD_eq_getElem?_getD, List.getElem?_eq_getElem (by rw [fates_len]; exact hj)] at this
  simp only [Option.getD_some] at this
  rw [this]
set_option maxRecDepth 100000 in
set_option maxHeartbeats 1000000 in
theorem rright_any (c : Nat) (n : Int) (w : World) (hc : c < 18446744073709551616) :
    Calls Try.prog 17 #[.int .u64 c, .int .i64 n] w fun e w' => e = .returned (.bool (rightB c n)) ∧ Below w.heap.size w w' := by
  have HC := Lib.hid hc
  clear hc
  by_cases h1 : 0 ≤ n
  · by_cases h2 : n ≤ 32
    · have hz := zeros
      go_enter Try.func17, Try.ntmps17
      go_wp2_with (first | (go_at_call 70; refine (fates_any c _ HC.out).mono ?_; rintro e w' ⟨rfl, hb⟩) | (refine wpList_store_row rfl 112 _ _ rfl w'.heap.size (iv (fates c)) rfl rfl 112 _ (Blk.new w' 112 _) (by rw [size112, iv_size, fates_len]) (by rw [iv_size, fates_len]; rfl) (iv_one _) ?_; generalize hw2 : World.setRow _ _ _ = w2; have hB : Blk w2 w'.heap.size 112 (iv (fates c)) := (by rw [← hw2]; exact setRow_heap _ _ _ _ _ _ (Blk.new _ _ _)); have HB := Lib.hid hB; have HZ := Lib.hid hw2; clear hB hw2))
      have hs := hb.size
      have hb2 : Below w.heap.size w w2 := by
        rw [← HZ.out]
        exact below_setRow (hb.alloc hs _) hs
      have HB2 := Lib.hid hb2
      have hB2 := HB.out.lt
      clear HZ hz hb
      go_loopw [6] (fun i wr => ∃ k : Nat, k ≤ 32 ∧ i = .int .i64 k ∧ Hid (∀ j, j < k → goodB c n j = true) ∧ wr = w2) (fun i _ => 32 - (intOf i).toNat)
      case atStart =>
        exact ⟨0, by omega, rfl, Lib.hid (fun j hj => absurd hj (by omega)), rfl⟩
      case round =>
        obtain ⟨k, hk, rfl, HG, rfl⟩ := hrel
        by_cases hlt : k < 32
        · have hcell : wr.cell? ⟨w'.heap.size, k, none⟩ = some (.int .i64 (fate c k : Nat)) := by rw [HB.out.cell k, fates_get? hlt]
          obtain ⟨y, hy⟩ : ∃ y, y = fate c k := ⟨_, rfl⟩
          rw [← hy] at hcell
          have HY := Lib.hid hy
          clear hy
          by_cases h3 : y = 3
          · have HR : Hid (rightB c n = false) := Lib.hid (right_bad hlt (by unfold goodB; rw [← HY.out, h3]; rfl))
            subst h3
            go_wp2_with fail
            go_ret
            exact ⟨by rw [HR.out]; rfl, HB2.out⟩
          · have hq3 : ((y : Int) == 3) = false := by rw [beq_eq_false_iff_ne]; omega
            by_cases h4 : (k : Int) < n
            · have HK : Hid (goodB c n k = true) := Lib.hid (by unfold goodB; rw [← HY.out]; simp [h3, h4])
              go_wp2_with fail
              exact ⟨⟨k + 1, by omega, by go_num, Lib.hid (fun j hj => by
                rcases Nat.lt_or_ge j k with h | h
                · exact HG.out j h
                · obtain rfl : j = k := by omega
                  exact HK.out), trivial⟩, by simp [intOf]; omega⟩
            · by_cases h5 : y = 0
              · have HK : Hid (goodB c n k = true) := Lib.hid (by unfold goodB; rw [← HY.out]; simp [h5])
                have hq0 : ((y : Int) != 0) = false := by rw [h5]; rfl
                go_wp2_with fail
                exact ⟨⟨k + 1, by omega, by go_num, Lib.hid (fun j hj => by
                  rcases Nat.lt_or_ge j k with h | h
                  · exact HG.out j h
                  · obtain rfl : j = k := by omega
                    exact HK.out), trivial⟩, by simp [intOf]; omega⟩
              · have HR : Hid (rightB c n = false) := Lib.hid (right_bad hlt (by unfold goodB; rw [← HY.out]; simp [h3, h4, h5]))
                have hq0 : ((y : Int) != 0) = true := by rw [bne_iff_ne]; omega
                go_wp2_with fail
                go_ret
                exact ⟨by rw [HR.out]; rfl, HB2.out⟩
        · have hk32 : k = 32 := by omega
          subst hk32
          have HR : Hid (rightB c n = true) := Lib.hid (right_good h1 h2 HG.out)
          go_wp2_with fail
          go_ret
          exact ⟨by rw [HR.out]; rfl, HB2.out⟩
    · have HR : Hid (rightB c n = false) := Lib.hid (by unfold rightB; simp; omega)
      go_enter Try.func17, Try.ntmps17
      go_wp2
      go_ret
      exact ⟨by rw [HR.out]; rfl, Below.refl _ _⟩
  · have HR : Hid (rightB c n = false) := Lib.hid (by unfold rightB; simp; omega)
    go_enter Try.func17, Try.ntmps17
    go_wp2
    go_ret
    exact ⟨by rw [HR.out]; rfl, Below.refl _ _⟩
end Go.Proofs.Ytikhhipgamllgaa
