/- The plain law of reading a choice. Conditions: in each theorem. -/
import Derived.Test.YtikhhipgamllgaaChoicePlain
import Derived.Lib.Bytealg
namespace Go.Proofs.Ytikhhipgamllgaa
def codeN (x : UInt8) : Nat := if x = 108 then 0 else if x = 107 then 1 else if x = 116 then 2 else 3
def codeI (x : UInt8) : Int := if codeN x < 3 then (codeN x : Int) else -1
theorem codeN_lt (x : UInt8) : codeN x < 4 := by
  unfold codeN
  split
  · omega
  · split
    · omega
    · split <;> omega
theorem index_code (x : UInt8) : Lib.indexByte [108, 107, 116] x = codeI x := by
  unfold codeI codeN
  by_cases h1 : x = 108
  · subst h1; decide
  · by_cases h2 : x = 107
    · subst h2; decide
    · by_cases h3 : x = 116
      · subst h3; decide
      · have e1 : ((108 : UInt8) == x) = false := by simpa using fun h => h1 h.symm
        have e2 : ((107 : UInt8) == x) = false := by simpa using fun h => h2 h.symm
        have e3 : ((116 : UInt8) == x) = false := by simpa using fun h => h3 h.symm
        simp [Lib.indexByte, e1, e2, e3, h1, h2, h3]
/-- the choice of the first i bytes -/
def rd (l : List UInt8) : Nat → Nat
  | 0 => 0
  | i + 1 => setF (rd l i) i (codeN (l.getD i 0))
theorem rd_lt (l : List UInt8) : ∀ i, rd l i < 18446744073709551616
  | 0 => by simp [rd]
  | i + 1 => by
    have e : (4 : Nat) ^ 32 = 18446744073709551616 := by decide
    have := setF_lt (c := rd l i) (i := i) (codeN_lt (l.getD i 0))
    rw [rd]; omega
theorem fate_rd (l : List UInt8) : ∀ n j, j < 32 → fate (rd l n) j = if j < n then codeN (l.getD j 0) else 0
  | 0, j, hj => by simp [rd, fate]
  | n + 1, j, hj => by
    rw [rd, setF_fate (codeN_lt _) j hj, fate_rd l n j hj]
    by_cases h1 : j = n
    · subst h1
      rw [if_pos rfl, if_pos (by omega)]
    · rw [if_neg h1]
      by_cases h2 : j < n
      · rw [if_pos h2, if_pos (by omega)]
      · rw [if_neg h2, if_neg (by omega)]
def goodL (l : List UInt8) : Bool := l.all fun x => decide (codeN x < 3)
end Go.Proofs.Ytikhhipgamllgaa
