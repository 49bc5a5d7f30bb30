/- The reference's TakeUint gives the same. Conditions: at most 2^39 bytes. -/
import Derived.Test.YtnhpkkmjicphgaaTakeW
import Derived.Deep.RegionWith
import Derived.Deep.DrawnRows
namespace Go.Proofs.Ytnhpkkmjicphgaa
open Go.RowKit
theorem and127_fin : ∀ m : Fin 256, bits .and .u8 ((m.val : Nat) : Int) 127 = ((m.val % 128 : Nat) : Int) := by decide +kernel
theorem and127 {x : Nat} (h : x < 256) : IntKind.u64.wrap (bits .and .u8 (x : Int) 127) = (x : Int) % 128 := by
  have h1 := and127_fin ⟨x, h⟩
  simp only at h1
  rw [h1, IntKind.wrap_u64]; omega
theorem or_step' {a x q : Nat} (ha : a < 128 ^ q) (hq : q ≤ 9) :
    bits .or .u64 (a : Int) (IntKind.u64.wrap ((x : Int) % 128 * 2 ^ (7 * q))) = (((a + 128 ^ q * (x % 128)) % 18446744073709551616 : Nat) : Int) := by
  by_cases hw : (x % 128) * 128 ^ q < 18446744073709551616
  · rw [or_step ha hq hw]
    refine congrArg (fun k : Nat => (k : Int)) (Nat.mod_eq_of_lt ?_).symm
    generalize hm : x % 128 = m at hw ⊢
    have hm2 : m < 128 := by omega
    rcases Nat.lt_or_ge q 9 with h9 | h9
    · have h2 : 128 ^ q ≤ 128 ^ 8 := Nat.pow_le_pow_right (by decide) (by omega)
      have h3 : 128 ^ q * m ≤ 128 ^ 8 * 127 := Nat.mul_le_mul h2 (by omega)
      omega
    · have e : q = 9 := by omega
      subst e
      omega
  · have hq9 : q = 9 := by
      rcases Nat.lt_or_ge q 9 with h9 | h9
      · have h2 : 128 ^ q ≤ 128 ^ 8 := Nat.pow_le_pow_right (by decide) (by omega)
        have h3 : (x % 128) * 128 ^ q ≤ 127 * 128 ^ 8 := Nat.mul_le_mul (by omega) h2
        omega
      · omega
    subst hq9
    have e : ((x : Int) % 128) = ((x % 128 : Nat) : Int) := by omega
    rw [pow7i, e, wrap_mul]
    generalize hm : x % 128 = m
    have e2 : m * 128 ^ 9 % 18446744073709551616 = 2 ^ (7 * 9) * (m % 2) := by omega
    rw [e2, u64_or_nat _ _ (by omega) (by omega), Nat.or_comm, ← Nat.two_pow_add_eq_or_of_lt (by omega)]
    omega
theorem conv_sl {W : World} {B n c : Nat} {A : Option Addr} {l : List UInt8} (h : Reads W B 1 A n (vb l)) : (convert 22 9 (.slice A n c)).run Try.prog W = .ok (.string ⟨l.toArray⟩) W := by
  have hl : l.length = n := by simpa [vb_len] using h.1
  have hid : l.map (fun b => UInt8.ofNat ((b.toNat : Int)).toNat) = l := by
    conv => rhs; rw [← List.map_id l]
    apply List.map_congr_left
    intro b _
    simp
  rcases Nat.eq_zero_or_pos n with h0 | h0
  · subst h0
    have hl0 : l = [] := List.eq_nil_of_length_eq_zero hl
    subst hl0
    cases A with
    | none => rw [run_convert_bytes_nil W 22 5 Try.underlying22 Try.underlying5 0 c 9 Try.underlying9]; rfl
    | some ad =>
      rw [run_convert_bytes_string W 22 9 5 _ 0 c Try.underlying22 Try.underlying5 Try.underlying9, run_bytesToString W ad 0 c [] (run_loadCells_list W ad [] (by simp))]
      rfl
  · obtain ⟨b, off, rfl, hb, hc⟩ := reads_form h h0
    rw [run_convert_bytes_arg W 22 5 Try.underlying22 Try.underlying5 b off n c (l.map fun b => (b.toNat : Int)) (by simpa using hl) (fun i hi => by
      rw [hc i (by omega)]
      simp [List.getD, List.getElem?_map, List.getElem?_eq_getElem (show i < l.length by omega)]) 9 Try.underlying9]
    congr 2
    unfold strOfNums
    rw [List.map_map]
    exact congrArg (fun t : List UInt8 => (⟨t.toArray⟩ : ByteArray)) hid
theorem ref_uint_nil (n : Nat) (w : World) (hn : n < 18446744073709551616) : Calls Try.prog 8 #[.slice none 0 0, .int .u64 n] w (UintPost w.heap.size 5 w (enc n).length (enc n)) := by
  have h := ref_uint none 0 0 [] n w Reads.none_ (by omega) hn
  rw [Nat.zero_add, List.nil_append] at h
  exact h
theorem codec_uint_nil (n : Nat) (w : World) (hn : n < 18446744073709551616) : Calls Try.prog 7 #[.slice none 0 0, .int .u64 n] w (UintPost w.heap.size 5 w (enc n).length (enc n)) := by
  have h := codec_uint none 0 0 [] n w Reads.none_ (by omega) hn
  rw [Nat.zero_add, List.nil_append] at h
  exact h
/-- one end of the reference's search -/
theorem ref_no {l : List UInt8} {q : Nat} (hm : More (l.take q)) (h : q < l.length) (hc : l[q].toNat < 128) (hne : enc (val (l.take (q + 1)) % 18446744073709551616) ≠ l.take (q + 1)) : NoDec l := by
  intro n t hn he
  obtain ⟨p, d, hp, hm2, hd, h0, hv⟩ := enc_form n
  have h2 : l.take q ++ l[q] :: l.drop (q + 1) = p ++ d :: t :=
    (split_at h).symm.trans (he.trans (by rw [hp, List.append_assoc]; rfl))
  obtain ⟨m, h3, h4⟩ := split_more hm hd h2
  cases m with
  | nil =>
    simp only [List.append_nil] at h3
    simp only [List.nil_append, List.cons.injEq] at h4
    apply hne
    have e : l.take (q + 1) = p ++ [d] := by rw [List.take_succ_eq_append_getElem h, h3, h4.1]
    rw [e, hv, Nat.mod_eq_of_lt hn, hp]
  | cons x m =>
    simp only [List.cons_append, List.cons.injEq] at h4
    have : 128 ≤ x.toNat := hm2 x (by rw [h3]; simp)
    rw [← h4.1] at this
    omega
theorem ref_yes {l : List UInt8} {q : Nat} (he : enc (val (l.take (q + 1)) % 18446744073709551616) = l.take (q + 1)) : l = enc (val (l.take (q + 1)) % 18446744073709551616) ++ l.drop (q + 1) := by
  rw [he, List.take_append_drop]
theorem ref_ten {l : List UInt8} (hm : More (l.take 10)) (h : 10 ≤ l.length) : NoDec l := by
  intro n t hn he
  obtain ⟨p, d, hp, hm2, hd, h0, hv⟩ := enc_form n
  have h2 : l.take 10 ++ l.drop 10 = p ++ d :: t :=
    (List.take_append_drop 10 l).trans (he.trans (by rw [hp, List.append_assoc]; rfl))
  obtain ⟨m, h3, h4⟩ := split_more hm hd h2
  have h5 := enc_len10 hn
  rw [hp, h3] at h5
  simp at h5
  omega
end Go.Proofs.Ytnhpkkmjicphgaa
