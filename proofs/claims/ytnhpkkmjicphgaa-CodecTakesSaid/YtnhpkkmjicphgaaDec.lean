/- The plain law of decoding: which bytes begin with an encoding. Conditions: none. -/
import Derived.Test.YtnhpkkmjicphgaaPlain
namespace Go.Proofs.Ytnhpkkmjicphgaa
/-- the number whose groups these bytes are -/
def val : List UInt8 → Nat
  | [] => 0
  | b :: r => b.toNat % 128 + 128 * val r
/-- bytes that are followed by one more -/
def More (l : List UInt8) : Prop := ∀ b ∈ l, 128 ≤ b.toNat
theorem val_append (l m : List UInt8) : val (l ++ m) = val l + 128 ^ l.length * val m := by
  induction l with
  | nil => simp [val]
  | cons b r ih =>
    simp only [List.cons_append, val, ih, List.length_cons, Nat.pow_succ]
    rw [Nat.mul_add, ← Nat.mul_assoc, Nat.mul_comm 128 (128 ^ r.length), Nat.add_assoc]
theorem val_snoc (l : List UInt8) (c : UInt8) : val (l ++ [c]) = val l + 128 ^ l.length * (c.toNat % 128) := by
  rw [val_append]; simp [val]
theorem val_lt (l : List UInt8) : val l < 128 ^ l.length := by
  induction l with
  | nil => simp [val]
  | cons b r ih =>
    simp only [val, List.length_cons, Nat.pow_succ]
    have := Nat.mod_lt b.toNat (show 128 > 0 by decide)
    omega
theorem val_ge (l m : List UInt8) (c : UInt8) : (c.toNat % 128) * 128 ^ l.length ≤ val (l ++ c :: m) := by
  rw [val_append, Nat.mul_comm]
  have : 128 ^ l.length * (c.toNat % 128) ≤ 128 ^ l.length * val (c :: m) := Nat.mul_le_mul (Nat.le_refl _) (by simp only [val]; omega)
  omega
theorem enc_val (l : List UInt8) (c : UInt8) (hl : More l) (hc : c.toNat < 128) (h0 : l = [] ∨ c.toNat ≠ 0) : enc (val (l ++ [c])) = l ++ [c] := by
  induction l with
  | nil =>
    simp only [List.nil_append, val]
    rw [enc_small (by omega)]
    congr 1
    apply UInt8.toNat_inj.1
    rw [UInt8.toNat_ofNat']; omega
  | cons b r ih =>
    have hb : 128 ≤ b.toNat := hl b (by simp)
    have hb2 : b.toNat < 256 := b.toNat_lt
    have hcn : c.toNat ≠ 0 := by rcases h0 with h | h <;> simp_all
    have hv : 1 ≤ val (r ++ [c]) := by
      have := val_ge r [] c
      have h2 : 1 ≤ (c.toNat % 128) * 128 ^ r.length := Nat.mul_pos (by omega) (Nat.pow_pos (by decide))
      omega
    simp only [List.cons_append, val]
    rw [enc_big (by omega)]
    have e1 : (b.toNat % 128 + 128 * val (r ++ [c])) / 128 = val (r ++ [c]) := by omega
    have e2 : (b.toNat % 128 + 128 * val (r ++ [c])) % 128 + 128 = b.toNat := by omega
    rw [e1, e2, ih (fun x hx => hl x (List.mem_cons_of_mem _ hx)) (.inr hcn)]
    congr 1
    apply UInt8.toNat_inj.1
    rw [UInt8.toNat_ofNat']; omega
theorem enc_form (n : Nat) : ∃ l c, enc n = l ++ [c] ∧ More l ∧ c.toNat < 128 ∧ (l = [] ∨ c.toNat ≠ 0) ∧ val (l ++ [c]) = n := by
  induction n using Nat.strongRecOn with
  | ind n ih =>
    rcases Nat.lt_or_ge n 128 with h | h
    · refine ⟨[], UInt8.ofNat n, by rw [enc_small h]; rfl, ?_, ?_, .inl rfl, ?_⟩
      · intro b hb; cases hb
      · rw [UInt8.toNat_ofNat']; omega
      · simp only [List.nil_append, val]; rw [UInt8.toNat_ofNat']; omega
    · obtain ⟨l, c, he, hm, hc, h0, hv⟩ := ih (n / 128) (by omega)
      have hc0 : c.toNat ≠ 0 := by
        rcases h0 with rfl | h0
        · simp only [List.nil_append, val] at hv; omega
        · exact h0
      refine ⟨UInt8.ofNat (n % 128 + 128) :: l, c, by rw [enc_big h, he]; rfl, ?_, hc, .inr hc0, ?_⟩
      · intro b hb
        rcases List.mem_cons.1 hb with rfl | hb
        · rw [UInt8.toNat_ofNat']; omega
        · exact hm b hb
      · simp only [List.cons_append, val]
        rw [hv, UInt8.toNat_ofNat']
        omega
/-- no number's bytes stand first -/
def NoDec (l : List UInt8) : Prop := ∀ n t, n < 18446744073709551616 → l ≠ enc n ++ t
theorem split_more {l p t r : List UInt8} {d : UInt8} (hl : More l) (hd : d.toNat < 128) (h : l ++ t = p ++ d :: r) : ∃ m, p = l ++ m ∧ t = m ++ d :: r := by
  induction l generalizing p with
  | nil => exact ⟨p, rfl, h⟩
  | cons b l ih =>
    cases p with
    | nil =>
      simp only [List.cons_append, List.nil_append, List.cons.injEq] at h
      have := hl b (by simp)
      rw [h.1] at this
      omega
    | cons x p =>
      simp only [List.cons_append, List.cons.injEq] at h
      obtain ⟨m, h1, h2⟩ := ih (fun y hy => hl y (List.mem_cons_of_mem _ hy)) h.2
      exact ⟨m, by rw [h1, h.1]; rfl, h2⟩
theorem enc_unique {n n' : Nat} {t t' : List UInt8} (h : enc n ++ t = enc n' ++ t') : n = n' ∧ t = t' := by
  obtain ⟨l, c, he, hm, hc, h0, hv⟩ := enc_form n
  obtain ⟨l', c', he', hm', hc', h0', hv'⟩ := enc_form n'
  rw [he, he', List.append_assoc, List.append_assoc] at h
  simp only [List.cons_append, List.nil_append] at h
  obtain ⟨m, h1, h2⟩ := split_more hm hc' h
  cases m with
  | nil =>
    simp only [List.append_nil] at h1
    simp only [List.nil_append, List.cons.injEq] at h2
    refine ⟨?_, h2.2⟩
    rw [← hv, ← hv', h1, h2.1]
  | cons x m =>
    simp only [List.cons_append, List.cons.injEq] at h2
    have : 128 ≤ x.toNat := hm' x (by rw [h1]; simp)
    rw [← h2.1] at this
    omega
theorem nodec_end {l : List UInt8} (hl : More l) : NoDec l := by
  intro n t _ h
  obtain ⟨p, d, he, _, hd, _, _⟩ := enc_form n
  rw [he, List.append_assoc] at h
  have := hl d (by rw [h]; simp)
  omega
theorem nodec_wide {l t : List UInt8} {c : UInt8} (hl : More l) (h : 10 ≤ l.length ∨ 18446744073709551616 ≤ (c.toNat % 128) * 128 ^ l.length) : NoDec (l ++ c :: t) := by
  intro n r hn he
  obtain ⟨p, d, hp, hm, hd, h0, hv⟩ := enc_form n
  rw [hp, List.append_assoc] at he
  simp only [List.cons_append, List.nil_append] at he
  obtain ⟨m, h1, h2⟩ := split_more hl hd he
  rcases h with h | h
  · have hne : d.toNat ≠ 0 := by
      rcases h0 with h0 | h0
      · rw [h0] at h1
        have := congrArg List.length h1
        simp at this
        omega
      · exact h0
    have hg := val_ge p [] d
    rw [hv] at hg
    have hpl : 10 ≤ p.length := by rw [h1]; simp; omega
    have h3 : 128 ^ 10 ≤ 128 ^ p.length := Nat.pow_le_pow_right (by decide) hpl
    have h4 : 1 * 128 ^ p.length ≤ (d.toNat % 128) * 128 ^ p.length := Nat.mul_le_mul (by omega) (Nat.le_refl _)
    omega
  · cases m with
    | nil =>
      simp only [List.nil_append, List.cons.injEq] at h2
      simp only [List.append_nil] at h1
      have hg := val_ge p [] d
      rw [hv, ← h2.1, h1] at hg
      omega
    | cons x m =>
      simp only [List.cons_append, List.cons.injEq] at h2
      have hg := val_ge l (m ++ [d]) c
      have : val (l ++ c :: (m ++ [d])) = n := by rw [← hv, h1, h2.1]; simp
      omega
theorem nodec_zero {l t : List UInt8} {c : UInt8} (hl : More l) (hc : c.toNat = 0) (h : 0 < l.length) : NoDec (l ++ c :: t) := by
  intro n r hn he
  obtain ⟨p, d, hp, hm, hd, h0, hv⟩ := enc_form n
  rw [hp, List.append_assoc] at he
  simp only [List.cons_append, List.nil_append] at he
  obtain ⟨m, h1, h2⟩ := split_more hl hd he
  cases m with
  | nil =>
    simp only [List.append_nil] at h1
    simp only [List.nil_append, List.cons.injEq] at h2
    rcases h0 with h0 | h0
    · rw [← h1, h0] at h; simp at h
    · rw [← h2.1] at h0; omega
  | cons x m =>
    simp only [List.cons_append, List.cons.injEq] at h2
    have : 128 ≤ x.toNat := hm x (by rw [h1]; simp)
    rw [← h2.1] at this
    omega
theorem dec_yes {l t : List UInt8} {c : UInt8} (hl : More l) (hc : c.toNat < 128) (h0 : l = [] ∨ c.toNat ≠ 0) : l ++ c :: t = enc (val (l ++ [c])) ++ t := by
  rw [enc_val l c hl hc h0]; simp
theorem dec_cases (l : List UInt8) : (∃ n t, n < 18446744073709551616 ∧ l = enc n ++ t) ∨ NoDec l := by
  rcases Classical.em (∃ n t, n < 18446744073709551616 ∧ l = enc n ++ t) with h | h
  · exact .inl h
  · exact .inr fun n t hn he => h ⟨n, t, hn, he⟩
end Go.Proofs.Ytnhpkkmjicphgaa
