/- The reference's Of, Fate and With. Conditions: numbers within their kinds. -/
import Derived.Test.YtikhhipgamllgaaFate
namespace Go.Proofs.Ytikhhipgamllgaa
open Go.RowKit
theorem ofF_drop {l : List Nat} {k : Nat} (h : k < l.length) : ofF (l.drop k) = l[k] + 4 * ofF (l.drop (k + 1)) := by
  rw [List.drop_eq_getElem_cons h, ofF]
theorem ofF_drop_lt {l : List Nat} (hl : l.length = 32) (h4 : ∀ x ∈ l, x < 4) (k : Nat) : ofF (l.drop k) < 18446744073709551616 := by
  have h := ofF_lt (l.drop k) (fun x hx => h4 x (List.mem_of_mem_drop hx))
  have h2 : 4 ^ (l.drop k).length ≤ 4 ^ 32 := Nat.pow_le_pow_right (by decide) (by simp; omega)
  omega
set_option maxRecDepth 100000 in
set_option maxHeartbeats 1000000 in
theorem of_any (l : List Nat) (w : World) (hl : l.length = 32) (h4 : ∀ x ∈ l, x < 4) :
    Calls Try.prog 71 #[.agg (iv l)] w fun e w' => e = .returned (.int .u64 (ofF l : Nat)) ∧ Below w.heap.size w w' := by
  have HL := Lib.hid hl
  have H4 := Lib.hid h4
  clear hl h4
  go_enter Try.func71, Try.ntmps71
  go_wp2_with fail
  go_outline
  go_loopw [3, 4] (fun c i wr => ∃ k : Nat, k ≤ 32 ∧ i = .int .i64 ((k : Int) - 1) ∧ (∃ x : Nat, c = .int .u64 x ∧ Hid (x = ofF (l.drop k))) ∧ Blk wr w.heap.size 112 (iv l) ∧ Below w.heap.size w wr) (fun _ i _ => (intOf i + 1).toNat)
  case atStart =>
    refine ⟨32, by omega, rfl, ⟨0, rfl, Lib.hid (by rw [List.drop_of_length_le (by rw [HL.out]; exact Nat.le_refl _)]; rfl)⟩, Blk.new w 112 _, (Below.refl _ _).alloc (Nat.le_refl _) _⟩
  case round =>
    obtain ⟨k, hk, rfl, ⟨x, rfl, HX⟩, hf, hb⟩ := hrel
    by_cases hk0 : k = 0
    · subst hk0
      go_wp2_with fail
      go_ret
      exact ⟨by rw [HX.out]; rfl, hb⟩
    · obtain ⟨j, rfl⟩ : ∃ j, k = j + 1 := ⟨k - 1, by omega⟩
      have hjl : j < l.length := by rw [HL.out]; omega
      obtain ⟨y, hy⟩ : ∃ y, y = l[j] := ⟨_, rfl⟩
      have hcell : wr.cell? ⟨w.heap.size, j, none⟩ = some (.int .i64 (y : Int)) := by rw [hf.cell j, iv_get _ _ hjl, hy]
      have hy4 : y < 4 := by rw [hy]; exact H4.out _ (List.getElem_mem hjl)
      have HY := Lib.hid hy
      have HF := Lib.hid hf
      clear hy hf hk0
      have e1 : ((j + 1 : Nat) : Int) - 1 = (j : Int) := by omega
      rw [e1]
      go_wp2_with fail
      have hx := HX.out
      have hF := HF.out
      have hB := ofF_drop_lt HL.out H4.out j
      have hd := ofF_drop hjl
      rw [← HY.out] at hd
      rw [← hx] at hd
      have e2 : IntKind.u64.wrap (4 * (x : Int)) = 4 * (x : Int) := IntWalk.u64_in _ (by omega)
      rw [e2]
      have e3 : IntKind.u64.wrap (4 * (x : Int) + (y : Int)) = 4 * (x : Int) + (y : Int) := IntWalk.u64_in _ (by omega)
      rw [e3]
      exact ⟨⟨j, by omega, rfl, ⟨y + 4 * x, by congr 1; omega, Lib.hid hd.symm⟩, hF, hb⟩, by simp [intOf]⟩
end Go.Proofs.Ytikhhipgamllgaa
