/- The reference's Show. Conditions: a number within its kind. -/
import Derived.Test.YtikhhipgamllgaaShow
import Derived.Test.YtikhhipgamllgaaRightR
namespace Go.Proofs.Ytikhhipgamllgaa
open Go.RowKit
set_option maxRecDepth 100000 in
set_option maxHeartbeats 2000000 in
theorem rshow_any (c : Nat) (n : Int) (w : World) (hc : c < 18446744073709551616) : Calls Try.prog 30 #[.int .u64 c, .int .i64 n] w fun o w' => o = .returned (.string ⟨(shw c n).toArray⟩) ∧ Below w.heap.size w w' := by
  have HC := Lib.hid hc
  clear hc
  have hz := zeros
  go_enter Try.func30, Try.ntmps30
  go_wp2_with (first | (go_at_call 70; refine (fates_any c _ HC.out).mono ?_; rintro e w' ⟨rfl, hb⟩) | (refine wpList_store_row rfl 112 _ _ rfl w'.heap.size (iv (fates c)) rfl rfl 112 _ (Blk.new w' 112 _) (by rw [size112, iv_size, fates_len]) (by rw [iv_size, fates_len]; rfl) (iv_one _) ?_; generalize hw2 : World.setRow _ _ _ = w2; have hB : Blk w2 w'.heap.size 112 (iv (fates c)) := (by rw [← hw2]; exact setRow_heap _ _ _ _ _ _ (Blk.new _ _ _)); have HB := Lib.hid hB; have HZ := Lib.hid hw2; clear hB hw2))
  have hs := hb.size
  have hb3 : Below w.heap.size w w2 := by
    rw [← HZ.out]
    exact below_setRow (hb.alloc hs _) hs
  have HB3 := Lib.hid hb3
  clear HZ hz hb hb3
  generalize w'.heap.size = g at *
  obtain ⟨m, hm⟩ : ∃ m, m = upN n := ⟨_, rfl⟩
  have hm32 : m ≤ 32 := by rw [hm]; exact upN_le n
  have hlo : ∀ k : Nat, k < m → (k : Int) < n := fun k hk => by
    unfold upN at hm
    split at hm
    · omega
    · split at hm <;> omega
  have hhi : ¬ ((m : Int) < n ∧ m < 32) := by
    unfold upN at hm
    split at hm
    · omega
    · split at hm <;> omega
  have HM := Lib.hid hm
  have HLO := Lib.hid hlo
  have HHI := Lib.hid hhi
  clear hm hlo hhi
  go_loopw [6, 7] (fun st i wr => ∃ k : Nat, k ≤ m ∧ i = .int .i64 (k : Int) ∧ st = .string ⟨(shwN c k).toArray⟩ ∧ Hid (Blk wr g 112 (iv (fates c))) ∧ Hid (Below w.heap.size w wr)) (fun _ i _ => m - (intOf i).toNat)
  case atStart => exact ⟨0, by omega, rfl, rfl, HB, HB3⟩
  case round =>
    obtain ⟨k, hk, rfl, rfl, HF, HBl⟩ := hrel
    by_cases hkm : k < m
    · have h1 := HLO.out k hkm
      have hk32 : k < 32 := by omega
      have hBs := HF.out.lt
      obtain ⟨f, hf⟩ : ∃ f, f = fate c k := ⟨_, rfl⟩
      have hcell : wr.cell? ⟨g, k, none⟩ = some (.int .i64 (f : Nat)) := by rw [HF.out.cell k, fates_get? hk32, hf]
      have hf4 : f < 4 := by rw [hf]; exact fate_lt c k
      have hstr : Hid (∀ b : UInt8, sign f = b → (⟨(shwN c k).toArray⟩ : ByteArray) ++ ⟨#[b]⟩ = ⟨(shwN c (k + 1)).toArray⟩) := Lib.hid (fun b hb => by
        rw [shwN_succ, ← hf, hb]
        apply ByteArray.ext
        simp)
      have hcases : f = 0 ∨ f = 1 ∨ f = 2 ∨ f = 3 := by omega
      clear hf hf4
      have hlen : ¬ 9223372036854775807 < (shwN c k).length + 1 := by rw [shwN_len]; omega
      rcases hcases with rfl | rfl | rfl | rfl
      · have HS := Lib.hid (hstr.out 108 rfl)
        go_wp2_with fail
        exact ⟨⟨k + 1, by omega, by go_num, by rw [HS.out], Lib.hid (HF.out.alloc _), Lib.hid (HBl.out.alloc HBl.out.size _)⟩, by simp [intOf]; omega⟩
      · have HS := Lib.hid (hstr.out 107 rfl)
        go_wp2_with fail
        exact ⟨⟨k + 1, by omega, by go_num, by rw [HS.out], Lib.hid (HF.out.alloc _), Lib.hid (HBl.out.alloc HBl.out.size _)⟩, by simp [intOf]; omega⟩
      · have HS := Lib.hid (hstr.out 116 rfl)
        go_wp2_with fail
        exact ⟨⟨k + 1, by omega, by go_num, by rw [HS.out], Lib.hid (HF.out.alloc _), Lib.hid (HBl.out.alloc HBl.out.size _)⟩, by simp [intOf]; omega⟩
      · have HS := Lib.hid (hstr.out 63 rfl)
        go_wp2_with fail
        exact ⟨⟨k + 1, by omega, by go_num, by rw [HS.out], Lib.hid (HF.out.alloc _), Lib.hid (HBl.out.alloc HBl.out.size _)⟩, by simp [intOf]; omega⟩
    · obtain rfl : k = m := by omega
      have hh := HHI.out
      by_cases h1 : (k : Int) < n
      · have h2 : ¬ k < 32 := fun h => hh ⟨h1, h⟩
        clear hh
        go_wp2_with fail
        go_ret
        exact ⟨by rw [shw, ← HM.out]; rfl, HBl.out⟩
      · clear hh
        go_wp2_with fail
        go_ret
        exact ⟨by rw [shw, ← HM.out]; rfl, HBl.out⟩
end Go.Proofs.Ytikhhipgamllgaa
