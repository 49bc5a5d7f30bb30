/- The plain law of choices: fates as digits of base four, and as bits. Conditions: in each theorem. -/
namespace Go.Proofs.Ytikhhipgamllgaa
/-- the fate of write i -/
def fate (c i : Nat) : Nat := c / 4 ^ i % 4
/-- the choice of fates -/
def ofF : List Nat → Nat
  | [] => 0
  | x :: r => x + 4 * ofF r
def fates (c : Nat) : List Nat := (List.range 32).map (fate c)
theorem fate_lt (c i : Nat) : fate c i < 4 := Nat.mod_lt _ (by decide)
theorem fate_succ (c i : Nat) : fate c (i + 1) = fate (c / 4) i := by
  unfold fate
  rw [Nat.pow_succ, Nat.mul_comm, Nat.div_div_eq_div_mul]
theorem fate_zero (c : Nat) : fate c 0 = c % 4 := by simp [fate]
theorem fate_beyond {c i n : Nat} (h : c < 4 ^ n) (hi : n ≤ i) : fate c i = 0 := by
  unfold fate
  have : 4 ^ n ≤ 4 ^ i := Nat.pow_le_pow_right (by decide) hi
  rw [Nat.div_eq_of_lt (by omega)]
theorem fate_ofF : ∀ (l : List Nat) (i : Nat), (∀ x ∈ l, x < 4) → fate (ofF l) i = l.getD i 0
  | [], i, _ => by simp [ofF, fate]
  | x :: r, 0, h => by
    have := h x (by simp)
    rw [fate_zero, ofF]
    simp
    omega
  | x :: r, i + 1, h => by
    have hx := h x (by simp)
    rw [fate_succ, ofF, show (x + 4 * ofF r) / 4 = ofF r by omega, fate_ofF r i (fun y hy => h y (List.mem_cons_of_mem _ hy))]
    simp
theorem ofF_lt : ∀ (l : List Nat), (∀ x ∈ l, x < 4) → ofF l < 4 ^ l.length
  | [], _ => by simp [ofF]
  | x :: r, h => by
    have hx := h x (by simp)
    have := ofF_lt r (fun y hy => h y (List.mem_cons_of_mem _ hy))
    rw [ofF, List.length_cons, Nat.pow_succ]
    omega
/-- numbers of the same fates are one -/
theorem fate_ext : ∀ (n c d : Nat), c < 4 ^ n → d < 4 ^ n → (∀ i, i < n → fate c i = fate d i) → c = d
  | 0, c, d, hc, hd, _ => by simp at hc hd; omega
  | n + 1, c, d, hc, hd, h => by
    rw [Nat.pow_succ] at hc hd
    have h0 := h 0 (by omega)
    rw [fate_zero, fate_zero] at h0
    have := fate_ext n (c / 4) (d / 4) (by omega) (by omega) (fun i hi => by
      have := h (i + 1) (by omega)
      rwa [fate_succ, fate_succ] at this)
    omega
theorem fates_len (c : Nat) : (fates c).length = 32 := by simp [fates]
theorem fates_get {c i : Nat} (h : i < 32) : (fates c).getD i 0 = fate c i := by
  simp [fates, List.getD, h]
theorem fates_mem (c : Nat) : ∀ x ∈ fates c, x < 4 := by
  intro x hx
  simp only [fates, List.mem_map] at hx
  obtain ⟨i, _, rfl⟩ := hx
  exact fate_lt c i
theorem ofF_fates {c : Nat} (h : c < 18446744073709551616) : ofF (fates c) = c := by
  have h64 : (18446744073709551616 : Nat) = 4 ^ 32 := by decide
  refine fate_ext 32 _ _ ?_ (by omega) (fun i hi => ?_)
  · have := ofF_lt (fates c) (fates_mem c)
    rwa [fates_len] at this
  · rw [fate_ofF _ _ (fates_mem c), fates_get hi]
/-! ### bits -/
theorem fate_bits (c i : Nat) : fate c i = (c.testBit (2 * i)).toNat + 2 * (c.testBit (2 * i + 1)).toNat := by
  unfold fate
  have e : (4 : Nat) ^ i = 2 ^ (2 * i) := by rw [Nat.pow_mul]
  rw [e]
  have h0 : (c / 2 ^ (2 * i)).testBit 0 = c.testBit (2 * i) := by rw [Nat.testBit_div_two_pow]; simp
  have h1 : (c / 2 ^ (2 * i)).testBit 1 = c.testBit (2 * i + 1) := by rw [Nat.testBit_div_two_pow]; congr 1; omega
  rw [← h0, ← h1]
  generalize c / 2 ^ (2 * i) = d
  rw [Nat.testBit_zero, Nat.testBit_succ, Nat.testBit_zero]
  have : d % 4 = 0 ∨ d % 4 = 1 ∨ d % 4 = 2 ∨ d % 4 = 3 := by omega
  rcases this with h | h | h | h
  · have a : d % 2 = 0 := by omega
    have b : d / 2 % 2 = 0 := by omega
    simp [h, a, b]
  · have a : d % 2 = 1 := by omega
    have b : d / 2 % 2 = 0 := by omega
    simp [h, a, b]
  · have a : d % 2 = 0 := by omega
    have b : d / 2 % 2 = 1 := by omega
    simp [h, a, b]
  · have a : d % 2 = 1 := by omega
    have b : d / 2 % 2 = 1 := by omega
    simp [h, a, b]
/-- another fate -/
def setF (c i f : Nat) : Nat := ofF ((fates c).set i f)
theorem setF_mem {c i f : Nat} (hf : f < 4) : ∀ x ∈ (fates c).set i f, x < 4 := by
  intro x hx
  rcases List.mem_or_eq_of_mem_set hx with h | h
  · exact fates_mem c x h
  · omega
theorem setF_fate {c i f : Nat} (hf : f < 4) (j : Nat) (hj : j < 32) : fate (setF c i f) j = if j = i then f else fate c j := by
  unfold setF
  rw [fate_ofF _ _ (setF_mem hf)]
  by_cases h : j = i
  · subst h
    rw [if_pos rfl]
    simp [List.getD, fates_len, hj]
  · rw [if_neg h, ← fates_get hj]
    simp only [List.getD]
    rw [List.getElem?_set_ne (fun e => h e.symm)]
theorem setF_lt {c i f : Nat} (hf : f < 4) : setF c i f < 4 ^ 32 := by
  have := ofF_lt _ (setF_mem (c := c) (i := i) hf)
  rw [List.length_set, fates_len] at this
  exact this
theorem three_bit (k : Nat) : (3 : Nat).testBit k = decide (k < 2) := by
  match k with
  | 0 => rfl
  | 1 => rfl
  | k + 2 =>
    have : (3 : Nat) < 2 ^ (k + 2) := by
      have : 2 ^ 2 ≤ 2 ^ (k + 2) := Nat.pow_le_pow_right (by decide) (by omega)
      omega
    rw [Nat.testBit_lt_two_pow this]
    simp
/-- the word that the program computes: some bits struck, others put there -/
theorem with_bits {c i f r : Nat} (hf : f < 4) (hr : r < 4 ^ 32) (hb : ∀ k, k < 64 → r.testBit k = ((c.testBit k && !(decide (2 * i ≤ k) && decide (k < 2 * i + 2))) || (decide (2 * i ≤ k) && f.testBit (k - 2 * i)))) : r = setF c i f := by
  refine fate_ext 32 _ _ hr (setF_lt hf) fun j hj => ?_
  rw [setF_fate hf j hj, fate_bits r, hb _ (by omega), hb _ (by omega)]
  by_cases h : j = i
  · subst h
    rw [if_pos rfl]
    have e0 : 2 * j - 2 * j = 0 := by omega
    have e1 : 2 * j + 1 - 2 * j = 1 := by omega
    simp only [Nat.le_refl, decide_true, Bool.true_and, e0, e1, show 2 * j ≤ 2 * j + 1 by omega, show 2 * j < 2 * j + 2 by omega, show 2 * j + 1 < 2 * j + 2 by omega, Bool.not_true, Bool.and_false, Bool.false_or]
    have : f = 0 ∨ f = 1 ∨ f = 2 ∨ f = 3 := by omega
    rcases this with rfl | rfl | rfl | rfl <;> decide
  · rw [if_neg h, fate_bits c]
    have hz : ∀ k, 2 * i + 2 ≤ k → f.testBit (k - 2 * i) = false := fun k hk => Nat.testBit_lt_two_pow (by
      have : 2 ^ 2 ≤ 2 ^ (k - 2 * i) := Nat.pow_le_pow_right (by decide) (by omega)
      omega)
    rcases Nat.lt_or_gt_of_ne h with hlt | hgt
    · simp [show ¬ 2 * i ≤ 2 * j by omega, show ¬ 2 * i ≤ 2 * j + 1 by omega]
    · simp [show 2 * i ≤ 2 * j by omega, show 2 * i ≤ 2 * j + 1 by omega, show ¬ 2 * j < 2 * i + 2 by omega, show ¬ 2 * j + 1 < 2 * i + 2 by omega, hz _ (show 2 * i + 2 ≤ 2 * j by omega), hz _ (show 2 * i + 2 ≤ 2 * j + 1 by omega)]
/-- is it a choice of n writes? -/
def rightB (c : Nat) (n : Int) : Bool := decide (0 ≤ n) && decide (n ≤ 32) && (List.range 32).all fun i => fate c i != 3 && (decide ((i : Int) < n) || fate c i == 0)
theorem low_bit : ∀ k : Fin 64, (6148914691236517205 : Nat).testBit k.val = decide (k.val % 2 = 0) := by decide +kernel
theorem no_three {c : Nat} (hc : c < 4 ^ 32) : ((c &&& (c / 2)) &&& 6148914691236517205 = 0) ↔ ∀ i, i < 32 → fate c i ≠ 3 := by
  constructor
  · intro h i hi h3
    have hb := congrArg (fun x => x.testBit (2 * i)) h
    have hl := low_bit ⟨2 * i, by omega⟩
    simp only at hl
    simp only [Nat.testBit_and, Nat.zero_testBit, hl, show 2 * i % 2 = 0 by omega, decide_true, Bool.and_true] at hb
    rw [show (c / 2).testBit (2 * i) = c.testBit (2 * i + 1) by rw [Nat.testBit_succ]] at hb
    rw [fate_bits] at h3
    cases h1 : c.testBit (2 * i) <;> cases h2 : c.testBit (2 * i + 1) <;> simp [h1, h2] at hb h3
  · intro h
    refine Nat.eq_of_testBit_eq fun k => ?_
    rw [Nat.zero_testBit, Nat.testBit_and, Nat.testBit_and]
    rcases Nat.lt_or_ge k 64 with hk | hk
    · have hl := low_bit ⟨k, hk⟩
      simp only at hl
      rw [hl]
      by_cases he : k % 2 = 0
      · obtain ⟨i, rfl⟩ : ∃ i, k = 2 * i := ⟨k / 2, by omega⟩
        have h3 := h i (by omega)
        rw [fate_bits] at h3
        rw [show (c / 2).testBit (2 * i) = c.testBit (2 * i + 1) by rw [Nat.testBit_succ]]
        cases h1 : c.testBit (2 * i) <;> cases h2 : c.testBit (2 * i + 1) <;> simp [h1, h2] at h3 ⊢
      · simp [he]
    · have : c.testBit k = false := Nat.testBit_lt_two_pow (by
        have : 2 ^ 64 ≤ 2 ^ k := Nat.pow_le_pow_right (by decide) hk
        have e : (4 : Nat) ^ 32 = 2 ^ 64 := by decide
        omega)
      simp [this]
theorem high_zero {c n : Nat} (hc : c < 4 ^ 32) : c / 4 ^ n = 0 ↔ ∀ i, n ≤ i → i < 32 → fate c i = 0 := by
  constructor
  · intro h i h1 _
    have hlt : c < 4 ^ n := by
      rcases Nat.lt_or_ge c (4 ^ n) with h2 | h2
      · exact h2
      · have := Nat.div_pos h2 (Nat.pow_pos (by decide))
        omega
    exact fate_beyond hlt h1
  · intro h
    refine fate_ext 32 _ _ (Nat.lt_of_le_of_lt (Nat.div_le_self _ _) hc) (by simp) fun j hj => ?_
    have e : fate (c / 4 ^ n) j = fate c (n + j) := by
      unfold fate
      rw [Nat.div_div_eq_div_mul, ← Nat.pow_add]
    rw [e, show fate 0 j = 0 by simp [fate]]
    rcases Nat.lt_or_ge (n + j) 32 with h1 | h1
    · exact h _ (by omega) h1
    · exact fate_beyond hc h1
theorem rightB_iff {c : Nat} {n : Nat} (hn : n ≤ 32) : rightB c n = true ↔ (∀ i, i < 32 → fate c i ≠ 3) ∧ ∀ i, n ≤ i → i < 32 → fate c i = 0 := by
  unfold rightB
  simp only [Bool.and_eq_true, decide_eq_true_eq, List.all_eq_true, List.mem_range, bne_iff_ne, Bool.or_eq_true, beq_iff_eq]
  constructor
  · rintro ⟨_, h⟩
    refine ⟨fun i hi => (h i hi).1, fun i h1 h2 => ?_⟩
    have := (h i h2).2
    omega
  · rintro ⟨h1, h2⟩
    refine ⟨⟨by omega, by omega⟩, fun i hi => ⟨h1 i hi, ?_⟩⟩
    rcases Nat.lt_or_ge i n with h3 | h3
    · left; omega
    · right; exact h2 i h3 hi
end Go.Proofs.Ytikhhipgamllgaa
