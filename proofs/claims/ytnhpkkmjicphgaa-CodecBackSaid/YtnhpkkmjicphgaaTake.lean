/- codec.TakeUint gives the number that stands first. Conditions: at most 2^39 bytes. -/
import Derived.Test.YtnhpkkmjicphgaaRefUint
import Derived.Test.YtnhpkkmjicphgaaDec
import Derived.Laws.BitsAllLaws
namespace Go.Proofs.Ytnhpkkmjicphgaa
open Go.RowKit
theorem reads_form {w : World} {B n : Nat} {A : Option Addr} {l : List UInt8} (h : Reads w B 1 A n (vb l)) (hn : 0 < n) :
    ∃ b off, A = some ⟨b, off, none⟩ ∧ b < B ∧ ∀ k (hk : k < l.length), w.cell? ⟨b, off + k, none⟩ = some (.int .u8 (l[k].toNat : Int)) := by
  obtain ⟨ad, rfl, hb, hc⟩ := h.2 hn
  obtain ⟨b, off, spot⟩ := ad
  have hl : l.length = n := by simpa [vb_len] using h.1
  have hget : ∀ k (hk : k < l.length), (vb l)[k]? = some (.int .u8 (l[k].toNat : Int)) := fun k hk => by simp [vb, hk]
  have h0 := hc 0 _ (hget 0 (by omega))
  have hs : spot = none := by simpa [Addr.add] using World.cell?_spot h0
  subst hs
  refine ⟨b, off, rfl, hb, fun k hk => ?_⟩
  have := hc k _ (hget k hk)
  rcases Nat.eq_zero_or_pos k with rfl | hk0
  · simpa [Addr.add] using this
  · simpa [Addr.add, Nat.pos_iff_ne_zero.1 hk0] using this
theorem reads_drop0 {w : World} {B : Nat} {A : Option Addr} {l : List UInt8} {k : Nat} (h : l.length ≤ k) : Reads w B 1 A (l.length - k) (vb (l.drop k)) := by
  refine ⟨by simp [vb_len], fun hn => ?_⟩
  omega
theorem reads_drop {w : World} {B b off : Nat} {l : List UInt8} {k : Nat} (h : Reads w B 1 (some ⟨b, off, none⟩) l.length (vb l)) (hk : k ≤ l.length) : Reads w B 1 (some ⟨b, off + k, none⟩) (l.length - k) (vb (l.drop k)) := by
  refine ⟨by simp [vb_len], fun hn => ?_⟩
  obtain ⟨ad, h1, hb, hc⟩ := h.2 (by omega)
  injection h1 with h1
  subst h1
  refine ⟨_, rfl, hb, fun j u hu => ?_⟩
  have h2 := hc (k + j) u (by
    rw [← hu]
    simp [vb])
  rw [← h2]
  simp only [Addr.add]
  congr 1
  by_cases hj : j = 0 <;> by_cases hk0 : k = 0 <;> simp [hj, hk0, Nat.add_assoc]
theorem reads_take {w : World} {B b off : Nat} {l : List UInt8} {k : Nat} (h : Reads w B 1 (some ⟨b, off, none⟩) l.length (vb l)) (hk : k ≤ l.length) : Reads w B 1 (some ⟨b, off, none⟩) k (vb (l.take k)) := by
  refine ⟨by simp [vb_len, Nat.min_eq_left hk], fun hn => ?_⟩
  obtain ⟨ad, h1, hb, hc⟩ := h.2 (by omega)
  refine ⟨ad, h1, hb, fun j u hu => hc j u ?_⟩
  rcases Nat.lt_or_ge j k with hj | hj
  · rw [← hu]
    simp [vb, hj]
  · rw [List.getElem?_eq_none (by simp [vb_len]; omega)] at hu
    cases hu
/-- a slice value that reads as some bytes -/
def Sl (w : World) (v : Value) (l : List UInt8) : Prop := ∃ A c, v = .slice A l.length c ∧ l.length ≤ c ∧ Reads w w.heap.size 1 A l.length (vb l)
theorem sl_own {w : World} {B n : Nat} {v : Value} {l : List UInt8} (h : w.ownsRow B 5 1 v n (vb l)) : Sl w v l := by
  have hl : l.length = n := by simpa [vb_len] using h.1
  subst hl
  rcases h.2 with ⟨rfl, h0⟩ | ⟨g, cap, cur, rfl, _, _, hc, _⟩
  · exact ⟨none, 0, by rw [h0], by omega, Reads.of_own (base := B) (e := 5) (c := 0) (by rw [h0]; rw [h0] at h; exact h)⟩
  · exact ⟨_, cap, rfl, hc, Reads.of_own h⟩
theorem clone_post {f : Nat} {args : Array Value} {w : World} {n : Nat} {l : List UInt8} (h : Calls Try.prog f args w fun e w' => ∃ v, e = .returned v ∧ w'.ownsRow w.heap.size 5 1 v n (vb l) ∧ Below w.heap.size w w') :
    Calls Try.prog f args w fun e w' => ∃ A c, e = .returned (.slice A l.length c) ∧ l.length ≤ c ∧ Reads w' w'.heap.size 1 A l.length (vb l) ∧ Below w.heap.size w w' :=
  h.mono fun e w' ⟨v, he, hown, hb⟩ => by
    obtain ⟨A, c, hv, hc, hr⟩ := sl_own hown
    exact ⟨A, c, by rw [he, hv], hc, hr, hb⟩
def TakeYes (w : World) (n : Nat) (t : List UInt8) (e : Ending) (w' : World) : Prop :=
  ∃ A c, e = .returned (.tuple #[.int .u64 n, .slice A t.length c, .bool true]) ∧ t.length ≤ c ∧ Reads w' w'.heap.size 1 A t.length (vb t) ∧ Below w.heap.size w w'
def TakeNo (w : World) (e : Ending) (w' : World) : Prop := e = .returned (.tuple #[.int .u64 0, .slice none 0 0, .bool false]) ∧ Below w.heap.size w w'
def TakePost (w : World) (l : List UInt8) (e : Ending) (w' : World) : Prop := (∃ n t, n < 18446744073709551616 ∧ l = enc n ++ t ∧ TakeYes w n t e w') ∨ (NoDec l ∧ TakeNo w e w')
theorem andNot128_fin : ∀ m : Fin 256, bits .andNot .u8 ((m.val : Nat) : Int) 128 = ((m.val % 128 : Nat) : Int) := by decide +kernel
theorem andNot128 {x : Nat} (h : x < 256) : IntKind.u64.wrap (bits .andNot .u8 (x : Int) 128) = (x : Int) % 128 := by
  have h1 := andNot128_fin ⟨x, h⟩
  simp only at h1
  rw [h1, IntKind.wrap_u64]; omega
theorem pow7 (q : Nat) : 2 ^ (7 * q) = 128 ^ q := by rw [Nat.pow_mul]
theorem pow7i (q : Nat) : (2 : Int) ^ (7 * q) = ((128 ^ q : Nat) : Int) := by rw [← pow7]; simp
theorem wrap_mul (m p : Nat) : IntKind.u64.wrap ((m : Int) * (p : Int)) = ((m * p % 18446744073709551616 : Nat) : Int) := by
  rw [IntKind.wrap_u64, ← Int.natCast_mul]; omega
theorem wide_test {x q : Nat} (hq : q ≤ 9) :
    (IntKind.u64.wrap ((x : Int) % 128 * 2 ^ (7 * q)) / 2 ^ (7 * q) != (x : Int) % 128) = decide (18446744073709551616 ≤ (x % 128) * 128 ^ q) := by
  have e : ((x : Int) % 128) = ((x % 128 : Nat) : Int) := by omega
  rw [pow7i, e, wrap_mul]
  generalize hm : x % 128 = m
  have hm2 : m < 128 := by omega
  have hp : 0 < 128 ^ q := Nat.pow_pos (by decide)
  have hp9 : 128 ^ q ≤ 128 ^ 9 := Nat.pow_le_pow_right (by decide) hq
  by_cases hw : 18446744073709551616 ≤ m * 128 ^ q
  · rw [decide_eq_true hw, bne_iff_ne]
    intro h
    have h1 : m * 128 ^ q % 18446744073709551616 / 128 ^ q = m := by
      have : (((m * 128 ^ q % 18446744073709551616 / 128 ^ q : Nat)) : Int) = (m : Int) := by rw [Int.natCast_ediv]; exact h
      omega
    have h2 : m * 128 ^ q ≤ m * 128 ^ q % 18446744073709551616 := by
      have := Nat.div_mul_le_self (m * 128 ^ q % 18446744073709551616) (128 ^ q)
      rw [h1] at this
      exact this
    have h3 := Nat.mod_lt (m * 128 ^ q) (show 18446744073709551616 > 0 by decide)
    omega
  · rw [decide_eq_false hw, bne_eq_false_iff_eq, Nat.mod_eq_of_lt (by omega), ← Int.natCast_ediv, Nat.mul_div_cancel _ hp]
theorem or_step {a x q : Nat} (ha : a < 128 ^ q) (hq : q ≤ 9) (hw : (x % 128) * 128 ^ q < 18446744073709551616) :
    bits .or .u64 (a : Int) (IntKind.u64.wrap ((x : Int) % 128 * 2 ^ (7 * q))) = ((a + 128 ^ q * (x % 128) : Nat) : Int) := by
  have e : ((x : Int) % 128) = ((x % 128 : Nat) : Int) := by omega
  have hp9 : 128 ^ q ≤ 128 ^ 9 := Nat.pow_le_pow_right (by decide) hq
  rw [pow7i, e, wrap_mul, Nat.mod_eq_of_lt hw, u64_or_nat _ _ (by omega) hw, Nat.or_comm, Nat.mul_comm (x % 128), ← pow7,
    ← Nat.two_pow_add_eq_or_of_lt (by rw [pow7]; exact ha), Nat.add_comm]
theorem val_take {l : List UInt8} {q : Nat} (h : q < l.length) : val (l.take (q + 1)) = val (l.take q) + 128 ^ q * (l[q].toNat % 128) := by
  rw [List.take_succ_eq_append_getElem h, val_snoc, List.length_take, Nat.min_eq_left (by omega)]
theorem val_take_lt (l : List UInt8) (q : Nat) : val (l.take q) < 128 ^ q :=
  Nat.lt_of_lt_of_le (val_lt _) (Nat.pow_le_pow_right (by decide) (List.length_take_le _ _))
theorem more_take {l : List UInt8} {q : Nat} (hm : More (l.take q)) (h : q < l.length) (hx : 128 ≤ l[q].toNat) : More (l.take (q + 1)) := by
  rw [List.take_succ_eq_append_getElem h]
  intro b hb
  rcases List.mem_append.1 hb with hb | hb
  · exact hm b hb
  · simp at hb; rw [hb]; exact hx
theorem split_at {l : List UInt8} {q : Nat} (h : q < l.length) : l = l.take q ++ l[q] :: l.drop (q + 1) := by
  rw [← List.drop_eq_getElem_cons h, List.take_append_drop]
theorem no_wide {l : List UInt8} {q : Nat} (hm : More (l.take q)) (h : q < l.length) (hw : 10 ≤ q ∨ 18446744073709551616 ≤ (l[q].toNat % 128) * 128 ^ q) : NoDec l := by
  rw [split_at h]
  refine nodec_wide hm ?_
  rw [List.length_take, Nat.min_eq_left (by omega)]
  exact hw
theorem no_zero {l : List UInt8} {q : Nat} (hm : More (l.take q)) (h : q < l.length) (hc : l[q].toNat = 0) (h0 : 0 < q) : NoDec l := by
  rw [split_at h]
  exact nodec_zero hm hc (by rw [List.length_take]; omega)
theorem yes_at {l : List UInt8} {q : Nat} (hm : More (l.take q)) (h : q < l.length) (hc : l[q].toNat < 128) (h0 : ¬(l[q].toNat = 0 ∧ 0 < q)) : l = enc (val (l.take (q + 1))) ++ l.drop (q + 1) := by
  rw [List.take_succ_eq_append_getElem h]
  conv => lhs; rw [split_at h]
  refine dec_yes hm hc ?_
  rcases Nat.eq_zero_or_pos q with rfl | hq
  · left; simp
  · right; omega
theorem val_fits {l : List UInt8} {q : Nat} (h : q < l.length) (hq : q ≤ 9) (hw : ¬ 18446744073709551616 ≤ (l[q].toNat % 128) * 128 ^ q) : val (l.take (q + 1)) < 18446744073709551616 := by
  rw [val_take h]
  have h1 := val_take_lt l q
  rcases Nat.lt_or_ge q 9 with h9 | h9
  · have h2 : 128 ^ q ≤ 128 ^ 8 := Nat.pow_le_pow_right (by decide) (by omega)
    have h3 : 128 ^ q * (l[q].toNat % 128) ≤ 128 ^ 8 * 127 := Nat.mul_le_mul h2 (by omega)
    omega
  · have e : q = 9 := by omega
    subst e
    omega
end Go.Proofs.Ytnhpkkmjicphgaa
