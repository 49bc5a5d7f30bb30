/- Small facts on the model's byte and word operations. Conditions: in each theorem. -/
import Derived.Test.YtnhpkkmjicphgaaClone
import Derived.Test.YtnhpkkmjicphgaaPlain
namespace Go.Proofs.Ytnhpkkmjicphgaa
open Go.RowKit
theorem or128_fin : ∀ m : Fin 256, bits .or .u8 ((m.val : Nat) : Int) 128 = ((m.val % 128 + 128 : Nat) : Int) := by decide +kernel
theorem or128 (q : Nat) : bits .or .u8 ((q : Int) % 256) 128 = ((UInt8.ofNat (q % 128 + 128)).toNat : Int) := by
  have h := or128_fin ⟨q % 256, Nat.mod_lt _ (by decide)⟩
  have e1 : ((q : Int) % 256) = ((q % 256 : Nat) : Int) := by omega
  rw [e1]
  simp only at h
  rw [h]
  have : (UInt8.ofNat (q % 128 + 128)).toNat = q % 128 + 128 := by
    rw [UInt8.toNat_ofNat']; omega
  rw [this]
  omega
end Go.Proofs.Ytnhpkkmjicphgaa
