/- The plain law of the order of choices. Conditions: in each theorem. -/
import Derived.Test.YtikhhipgamllgaaChoicePlain
namespace Go.Proofs.Ytikhhipgamllgaa
/-- the choice whose first n fates are k's digits -/
def nthS (b k : Nat) : Nat → Nat
  | 0 => 0
  | n + 1 => nthS b k n + (k / b ^ n % b) * 4 ^ n
theorem nthS_lt {b k : Nat} (h0 : 0 < b) (h4 : b ≤ 4) : ∀ n, nthS b k n < 4 ^ n
  | 0 => by simp [nthS]
  | n + 1 => by
    have ih := nthS_lt (k := k) h0 h4 n
    have hd : k / b ^ n % b < b := Nat.mod_lt _ h0
    have hm : (k / b ^ n % b) * 4 ^ n ≤ 3 * 4 ^ n := Nat.mul_le_mul_right _ (by omega)
    rw [nthS, Nat.pow_succ]
    omega
theorem fate_add {x d n : Nat} (hx : x < 4 ^ n) (hd : d < 4) (i : Nat) : fate (x + d * 4 ^ n) i = if i < n then fate x i else if i = n then d else 0 := by
  have hp : 0 < 4 ^ n := Nat.pow_pos (by decide)
  by_cases h1 : i < n
  · rw [if_pos h1]
    unfold fate
    have e : d * 4 ^ n = 4 ^ i * (4 * (d * 4 ^ (n - i - 1))) := by
      have : 4 ^ n = 4 ^ i * (4 * 4 ^ (n - i - 1)) := by
        rw [← Nat.pow_succ', ← Nat.pow_add]
        congr 1; omega
      rw [this]
      simp only [Nat.mul_left_comm]
    rw [e, Nat.add_mul_div_left _ _ (Nat.pow_pos (by decide)), Nat.add_mul_mod_self_left]
  · rw [if_neg h1]
    by_cases h2 : i = n
    · subst h2
      rw [if_pos rfl]
      unfold fate
      rw [Nat.add_mul_div_right _ _ hp, Nat.div_eq_of_lt hx]
      omega
    · rw [if_neg h2]
      refine fate_beyond (n := n + 1) ?_ (by omega)
      have hm : d * 4 ^ n ≤ 3 * 4 ^ n := Nat.mul_le_mul_right _ (by omega)
      rw [Nat.pow_succ]; omega
theorem fate_nthS {b k : Nat} (h0 : 0 < b) (h4 : b ≤ 4) : ∀ (n i : Nat), fate (nthS b k n) i = if i < n then k / b ^ i % b else 0
  | 0, i => by simp [nthS, fate]
  | n + 1, i => by
    have hd : k / b ^ n % b < b := Nat.mod_lt _ h0
    rw [nthS, fate_add (nthS_lt h0 h4 n) (by omega), fate_nthS h0 h4 n i]
    by_cases h1 : i < n
    · rw [if_pos h1, if_pos h1, if_pos (show i < n + 1 by omega)]
    · rw [if_neg h1]
      by_cases h2 : i = n
      · subst h2
        rw [if_pos rfl, if_pos (by omega)]
      · rw [if_neg h2, if_neg (by omega)]
/-- the fates as far as the digits are told -/
def nl (b k j : Nat) : List Nat := (List.range 32).map fun i => if i < j then k / b ^ i % b else 0
theorem nl_len (b k j : Nat) : (nl b k j).length = 32 := by simp [nl]
theorem nl_mem {b k j : Nat} (h0 : 0 < b) (h4 : b ≤ 4) : ∀ x ∈ nl b k j, x < 4 := by
  intro x hx
  simp only [nl, List.mem_map] at hx
  obtain ⟨i, _, rfl⟩ := hx
  split
  · have := Nat.mod_lt (k / b ^ i) h0; omega
  · omega
theorem nl_set {b k j : Nat} : (nl b k j).set j (k / b ^ j % b) = nl b k (j + 1) := by
  apply List.ext_getElem?
  intro i
  rcases Nat.lt_or_ge i 32 with hi | hi
  · by_cases h : j = i
    · subst h
      simp [nl, hi]
    · rw [List.getElem?_set_ne h]
      simp [nl, hi]
      by_cases h1 : i < j
      · rw [if_pos h1, if_pos (by omega)]
      · rw [if_neg h1, if_neg (by omega)]
  · rw [List.getElem?_eq_none (by simp [nl]; omega), List.getElem?_eq_none (by simp [nl]; omega)]
theorem ofF_nl {b k n : Nat} (h0 : 0 < b) (h4 : b ≤ 4) (hn : n ≤ 32) : ofF (nl b k n) = nthS b k n := by
  refine fate_ext 32 _ _ ?_ ?_ fun i hi => ?_
  · have := ofF_lt _ (nl_mem (k := k) (j := n) h0 h4)
    rwa [nl_len] at this
  · have h1 := nthS_lt (k := k) h0 h4 n
    have h2 : 4 ^ n ≤ 4 ^ 32 := Nat.pow_le_pow_right (by decide) hn
    omega
  · rw [fate_ofF _ _ (nl_mem h0 h4), fate_nthS h0 h4]
    simp [nl, List.getD, hi]
/-- the place in the order, from the last of n fates on, j of them -/
def rkS (b c n : Nat) : Nat → Nat
  | 0 => 0
  | j + 1 => rkS b c n j * b + fate c (n - 1 - j)
theorem rkS_lt {b c n : Nat} : ∀ j, (∀ i, i < j → fate c (n - 1 - i) < b) → rkS b c n j < b ^ j
  | 0, _ => by simp [rkS]
  | j + 1, h => by
    have ih := rkS_lt j (fun i hi => h i (by omega))
    have hd := h j (by omega)
    have : (rkS b c n j + 1) * b ≤ b ^ j * b := Nat.mul_le_mul_right _ ih
    rw [Nat.add_mul] at this
    rw [rkS, Nat.pow_succ]
    omega
theorem rkS_nthS {b k n : Nat} (h0 : 0 < b) (h4 : b ≤ 4) : ∀ j, j ≤ n → rkS b (nthS b k n) n j = k / b ^ (n - j) % b ^ j
  | 0, _ => by simp [rkS, Nat.mod_one]
  | j + 1, hj => by
    rw [rkS, rkS_nthS h0 h4 j (by omega), fate_nthS h0 h4, if_pos (by omega)]
    have e : n - 1 - j = n - (j + 1) := by omega
    have e2 : n - j = n - (j + 1) + 1 := by omega
    rw [e, e2, Nat.pow_succ b (n - (j + 1)), ← Nat.div_div_eq_div_mul]
    generalize k / b ^ (n - (j + 1)) = q
    rw [Nat.pow_succ, Nat.mul_comm (b ^ j) b, Nat.mod_mul, Nat.mul_comm (q / b % b ^ j) b]
    omega
end Go.Proofs.Ytikhhipgamllgaa
