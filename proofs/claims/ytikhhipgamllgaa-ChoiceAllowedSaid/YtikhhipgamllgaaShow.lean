/- choice.Show. Conditions: a number within its kind. -/
import Derived.Test.YtikhhipgamllgaaFate
import Derived.Test.YtikhhipgamllgaaBuilder
import Derived.Deep.DeepMust
namespace Go.Proofs.Ytikhhipgamllgaa
open Go.RowKit
def sign (f : Nat) : UInt8 := if f = 0 then 108 else if f = 1 then 107 else if f = 2 then 116 else 63
def shwN (c k : Nat) : List UInt8 := (List.range k).map fun i => sign (fate c i)
theorem shwN_succ (c k : Nat) : shwN c (k + 1) = shwN c k ++ [sign (fate c k)] := by simp [shwN, List.range_succ]
theorem shwN_len (c k : Nat) : (shwN c k).length = k := by simp [shwN]
def upN (n : Int) : Nat := if n ≤ 0 then 0 else if n ≤ 32 then n.toNat else 32
theorem upN_le (n : Int) : upN n ≤ 32 := by
  unfold upN
  split
  · omega
  · split <;> omega
def shw (c : Nat) (n : Int) : List UInt8 := shwN c (upN n)
theorem sr0 (w : World) : (Instr.index 9 (.string ⟨#[108, 107, 116, 63]⟩) (.int .i64 0)).run Try.prog w = .ok (.int .u8 108) w := by kernel_rfl
theorem sr1 (w : World) : (Instr.index 9 (.string ⟨#[108, 107, 116, 63]⟩) (.int .i64 1)).run Try.prog w = .ok (.int .u8 107) w := by kernel_rfl
theorem sr2 (w : World) : (Instr.index 9 (.string ⟨#[108, 107, 116, 63]⟩) (.int .i64 2)).run Try.prog w = .ok (.int .u8 116) w := by kernel_rfl
theorem sr3 (w : World) : (Instr.index 9 (.string ⟨#[108, 107, 116, 63]⟩) (.int .i64 3)).run Try.prog w = .ok (.int .u8 63) w := by kernel_rfl
theorem sign_run (x : Nat) (hx : x < 4) (w : World) : (Instr.index 9 (.string ⟨#[108, 107, 116, 63]⟩) (.int .i64 x)).run Try.prog w = .ok (.int .u8 ((sign x).toNat : Int)) w := by
  have : x = 0 ∨ x = 1 ∨ x = 2 ∨ x = 3 := by omega
  rcases this with rfl | rfl | rfl | rfl
  · exact sr0 w
  · exact sr1 w
  · exact sr2 w
  · exact sr3 w
theorem max_min (n : Int) : max 0 (min n 32) = (upN n : Int) := by
  unfold upN
  split
  · omega
  · split <;> omega
theorem fateI_nat (c k : Nat) (h : k < 32) : fateI c k = (fate c k : Nat) := by
  unfold fateI
  rw [if_pos (by omega)]; rfl
theorem byteCells_snoc (l : List UInt8) (b : UInt8) : Lib.byteCells l ++ [.int .u8 (b.toNat : Int)] = Lib.byteCells (l ++ [b]) := by simp [Lib.byteCells]
set_option maxHeartbeats 1000000 in
theorem show_any (c : Nat) (n : Int) (w : World) (hc : c < 18446744073709551616) : Calls Try.prog 29 #[.int .u64 c, .int .i64 n] w fun e w' => e = .returned (.string ⟨(shw c n).toArray⟩) ∧ Below w.heap.size w w' := by
  have HC := Lib.hid hc
  clear hc
  go_enter Try.func29, Try.ntmps29
  go_wp2_with fail
  rw [max_min]
  obtain ⟨m, hm⟩ : ∃ m, m = upN n := ⟨_, rfl⟩
  have hm32 : m ≤ 32 := by rw [hm]; exact upN_le n
  rw [← hm]
  have HM := Lib.hid hm
  clear hm
  go_loopw [10] (fun i wr => ∃ k : Nat, k ≤ m ∧ i = .int .i64 k ∧ Lib.IsBuilder 120 5 w.heap.size w.heap.size (Lib.byteCells (shwN c k)) wr ∧ Below w.heap.size w wr) (fun i _ => m - (intOf i).toNat)
  case atStart => exact ⟨0, by omega, rfl, Lib.fresh_isBuilder 120 5 w, (Below.refl _ _).alloc (Nat.le_refl _) _⟩
  case round =>
    obtain ⟨k, hk, rfl, hB, hb⟩ := hrel
    have hs := hb.size
    by_cases hlt : k < m
    · have hk32 : k < 32 := by omega
      have hrun := fun w => sign_run (fate c k) (fate_lt c k) w
      have HB := Lib.hid hB
      clear hB
      go_wp2_with (first | (go_at_call 12; refine (fate_any c _ _ HC.out).mono ?_; rintro e w' ⟨rfl, rfl⟩; rw [fateI_nat c k hk32]) | (go_at_call 75; refine (byte_any w.heap.size w.heap.size _ _ _ HB.out (by rw [Lib.byteCells_length, shwN_len]; omega) hs).mono ?_; rintro e w' ⟨rfl, h2, hb2⟩))
      rw [byteCells_snoc, ← shwN_succ] at h2
      exact ⟨⟨k + 1, by omega, by go_num, Or.inr h2, hb.trans hb2⟩, by simp [intOf]; omega⟩
    · obtain rfl : k = m := by omega
      go_wp2_with (go_at_call 76; refine (Try.Builder_String_any w.heap.size w.heap.size _ _ hB hs).mono ?_; rintro e w' ⟨rfl, hb2⟩)
      go_ret
      exact ⟨by rw [HM.out]; rfl, hb.trans hb2⟩
end Go.Proofs.Ytikhhipgamllgaa
