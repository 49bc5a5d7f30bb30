/- The plain law of ChoiceBack. Conditions: in each theorem. -/
import Derived.Test.YtikhhipgamllgaaNth
import Derived.Test.YtikhhipgamllgaaRank
import Derived.Test.YtikhhipgamllgaaRead
import Derived.Test.YtikhhipgamllgaaShow
import Derived.Test.YtikhhipgamllgaaAllow
namespace Go.Proofs.Ytikhhipgamllgaa
theorem cnt_nat {n : Nat} (hn : n ≤ 32) (t : Bool) : cnt n t = bs t ^ n := by
  unfold cnt
  rw [if_pos (by omega)]; rfl
theorem code_sign (f : Nat) (hf : f < 4) : codeN (sign f) = f := by
  have : f = 0 ∨ f = 1 ∨ f = 2 ∨ f = 3 := by omega
  rcases this with rfl | rfl | rfl | rfl <;> decide
theorem nth_of {k n : Nat} {t : Bool} (hk : k < cnt n t) : nthN k n t = nthS (bs t) k n := by
  unfold nthN; rw [if_pos hk]; rfl
theorem nthS_right {k n : Nat} {t : Bool} (hn : n ≤ 32) : rightB (nthS (bs t) k n) n = true := by
  have h0 : 0 < bs t := by have := bs_ge t; omega
  have h4 : bs t ≤ 4 := by have := bs_le t; omega
  rw [rightB_iff hn]
  refine ⟨fun i _ => ?_, fun i hi _ => ?_⟩
  · rw [fate_nthS h0 h4]
    split
    · have := Nat.mod_lt (k / bs t ^ i) h0
      have := bs_le t; omega
    · omega
  · rw [fate_nthS h0 h4, if_neg (by omega)]
theorem nthS_rank {k n : Nat} {t : Bool} (hn : n ≤ 32) (hk : k < bs t ^ n) : rankV (nthS (bs t) k n) n t = .tuple #[.int .u64 k, .bool true] := by
  have h0 : 0 < bs t := by have := bs_ge t; omega
  have h4 : bs t ≤ 4 := by have := bs_le t; omega
  have hw : wildB (nthS (bs t) k n) n (bs t) = false := wild_no (fun i hi => by
    rw [fate_nthS h0 h4, if_pos (by omega)]
    exact Nat.mod_lt _ h0)
  have hr : rkS (bs t) (nthS (bs t) k n) n n = k := by
    rw [rkS_nthS h0 h4 n (Nat.le_refl n), Nat.sub_self, Nat.pow_zero, Nat.div_one, Nat.mod_eq_of_lt hk]
  unfold rankV rankN
  rw [if_pos (nthS_right hn)]
  simp only [Int.toNat_natCast, hw, hr]
  rfl
theorem shw_nat (c : Nat) {n : Nat} (hn : n ≤ 32) : shw c n = shwN c n := by
  unfold shw
  congr 1
  unfold upN
  split
  · omega
  · rw [if_pos (by omega)]; rfl
theorem shwN_get {c n j : Nat} (hj : j < n) : (shwN c n).getD j 0 = sign (fate c j) := by
  simp [shwN, List.getD, hj]
theorem read_show {c n : Nat} (hn : n ≤ 32) (hc : c < 18446744073709551616) (hr : rightB c n = true) : readV (shwN c n) = .tuple #[.int .u64 c, .int .i64 n, .bool true] := by
  have hf := (rightB_iff hn).1 hr
  have hg : goodL (shwN c n) = true := good_all (fun k hk => by
    rw [shwN_len] at hk
    rw [shwN_get hk, code_sign _ (fate_lt _ _)]
    have := hf.1 k (by omega)
    have := fate_lt c k
    omega)
  have e : (4 : Nat) ^ 32 = 18446744073709551616 := by decide
  have hrd : rd (shwN c n) n = c := by
    refine fate_ext 32 _ _ (by have := rd_lt (shwN c n) n; omega) (by omega) fun j hj => ?_
    rw [fate_rd _ _ _ hj]
    by_cases h : j < n
    · rw [if_pos h, shwN_get h, code_sign _ (fate_lt _ _)]
    · rw [if_neg h, hf.2 j (by omega) hj]
  unfold readV
  rw [if_pos ⟨by rw [shwN_len]; exact hn, hg⟩, shwN_len, hrd]
/-- the choice that keeps the first i writes -/
def kp : Nat → Nat
  | 0 => 0
  | i + 1 => setF (kp i) i 1
theorem kp_lt : ∀ i, kp i < 18446744073709551616
  | 0 => by simp [kp]
  | i + 1 => by
    have e : (4 : Nat) ^ 32 = 18446744073709551616 := by decide
    have := setF_lt (c := kp i) (i := i) (f := 1) (by omega)
    rw [kp]; omega
theorem fate_kp : ∀ n j, j < 32 → fate (kp n) j = if j < n then 1 else 0
  | 0, j, hj => by simp [kp, fate]
  | n + 1, j, hj => by
    rw [kp, setF_fate (by omega) j hj, fate_kp n j hj]
    by_cases h1 : j = n
    · subst h1
      rw [if_pos rfl, if_pos (by omega)]
    · rw [if_neg h1]
      by_cases h2 : j < n
      · rw [if_pos h2, if_pos (by omega)]
      · rw [if_neg h2, if_neg (by omega)]
theorem fate_none (i : Nat) : fate 0 i = 0 := by simp [fate]
theorem allow_none {e : List Int} (he : e.length ≤ 32) : allowB 0 e = true := by
  unfold allowB
  rw [(rightB_iff he).2 ⟨fun i _ => by rw [fate_none]; omega, fun i _ _ => fate_none i⟩, (alB_iff 0 e).2 (fun i _ k _ => by unfold badB; rw [fate_none k]; rfl)]
  rfl
theorem allow_kept {e : List Int} (he : e.length ≤ 32) : allowB (kp e.length) e = true := by
  unfold allowB
  rw [(rightB_iff he).2 ⟨fun i hi => by rw [fate_kp _ _ hi]; split <;> omega, fun i h1 h2 => by rw [fate_kp _ _ h2, if_neg (by omega)]⟩, (alB_iff _ e).2 (fun i hi k _ => by unfold badB; rw [fate_kp _ i (by omega), if_pos hi]; simp)]
  rfl
end Go.Proofs.Ytikhhipgamllgaa
