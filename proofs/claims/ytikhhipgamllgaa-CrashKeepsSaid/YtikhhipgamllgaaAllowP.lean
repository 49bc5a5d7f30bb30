/- The plain law of what epochs allow. Conditions: in each theorem. -/
import Derived.Test.YtikhhipgamllgaaChoicePlain
namespace Go.Proofs.Ytikhhipgamllgaa
def badB (c : Nat) (e : List Int) (i k : Nat) : Bool := fate c k != 0 && decide (e.getD i 0 < e.getD k 0) && fate c i != 1
def alB (c : Nat) (e : List Int) : Bool := (List.range e.length).all fun i => (List.range e.length).all fun k => !badB c e i k
def allowB (c : Nat) (e : List Int) : Bool := rightB c e.length && alB c e
theorem alB_iff (c : Nat) (e : List Int) : alB c e = true ↔ ∀ i, i < e.length → ∀ k, k < e.length → badB c e i k = false := by
  simp [alB]
def LowInv (c : Nat) (e : List Int) (k : Nat) (s : Bool) (lo : Int) : Prop :=
  if s = true then (∃ j, j < k ∧ fate c j ≠ 0 ∧ e.getD j 0 = lo) ∧ (∀ j, j < k → fate c j ≠ 0 → e.getD j 0 ≤ lo) else ∀ j, j < k → fate c j = 0
theorem LowInv.zero (c : Nat) (e : List Int) : LowInv c e 0 false 0 := by
  unfold LowInv
  rw [if_neg (by decide)]
  intro j hj; omega
theorem LowInv.same {c : Nat} {e : List Int} {k : Nat} {s : Bool} {lo : Int} (h : LowInv c e k s lo) (hz : fate c k = 0 ∨ (s = true ∧ e.getD k 0 ≤ lo)) : LowInv c e (k + 1) s lo := by
  unfold LowInv at h ⊢
  by_cases hs : s = true
  · rw [if_pos hs] at h ⊢
    obtain ⟨⟨j, hj, hf, he⟩, h2⟩ := h
    refine ⟨⟨j, by omega, hf, he⟩, fun i hi hfi => ?_⟩
    rcases Nat.lt_or_ge i k with h3 | h3
    · exact h2 i h3 hfi
    · obtain rfl : i = k := by omega
      rcases hz with hz | hz
      · exact absurd hz hfi
      · exact hz.2
  · rw [if_neg hs] at h ⊢
    intro i hi
    rcases Nat.lt_or_ge i k with h3 | h3
    · exact h i h3
    · obtain rfl : i = k := by omega
      rcases hz with hz | hz
      · exact hz
      · exact absurd hz.1 hs
theorem LowInv.up {c : Nat} {e : List Int} {k : Nat} {s : Bool} {lo x : Int} (h : LowInv c e k s lo) (hx : x = e.getD k 0) (hf : fate c k ≠ 0) (hz : s = false ∨ lo < x) : LowInv c e (k + 1) true x := by
  unfold LowInv at h ⊢
  rw [if_pos rfl]
  refine ⟨⟨k, by omega, hf, hx.symm⟩, fun i hi hfi => ?_⟩
  rcases Nat.lt_or_ge i k with h3 | h3
  · by_cases hs : s = true
    · rw [if_pos hs] at h
      have := h.2 i h3 hfi
      rcases hz with hz | hz
      · rw [hz] at hs; cases hs
      · omega
    · rw [if_neg hs] at h
      exact absurd (h i h3) hfi
  · obtain rfl : i = k := by omega
    omega
/-- what the second loop asks of epoch j -/
def okJ (c : Nat) (e : List Int) (s : Bool) (lo : Int) (j : Nat) : Prop := s = true → e.getD j 0 < lo → fate c j = 1
theorem allow_of {c : Nat} {e : List Int} {s : Bool} {lo : Int} (h : LowInv c e e.length s lo) (hok : ∀ j, j < e.length → okJ c e s lo j) : alB c e = true := by
  rw [alB_iff]
  intro i hi k hk
  unfold badB
  unfold LowInv at h
  by_cases hs : s = true
  · rw [if_pos hs] at h
    by_cases hf : fate c k = 0
    · simp [hf]
    · have h1 := h.2 k hk hf
      by_cases hlt : e.getD i 0 < e.getD k 0
      · have := hok i hi hs (by omega)
        simp [this]
      · simp only [hlt, decide_false, Bool.and_false, Bool.false_and]
  · rw [if_neg hs] at h
    simp [h k hk]
theorem allow_not {c : Nat} {e : List Int} {lo : Int} {j : Nat} (h : LowInv c e e.length true lo) (hj : j < e.length) (h1 : e.getD j 0 < lo) (h2 : fate c j ≠ 1) : alB c e = false := by
  cases ha : alB c e with
  | false => rfl
  | true =>
    unfold LowInv at h
    rw [if_pos rfl] at h
    obtain ⟨⟨k, hk, hf, he⟩, _⟩ := h
    have := (alB_iff c e).1 ha j hj k hk
    unfold badB at this
    rw [he, decide_eq_true h1] at this
    simp [hf, h2] at this
end Go.Proofs.Ytikhhipgamllgaa
