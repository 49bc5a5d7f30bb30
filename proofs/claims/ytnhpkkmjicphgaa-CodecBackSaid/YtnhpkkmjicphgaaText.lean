/- Text lays the length, then the bytes. Conditions: at most 2^38 bytes each. -/
import Derived.Test.YtnhpkkmjicphgaaRefUint
import Derived.Lib.AppendStr
namespace Go.Proofs.Ytnhpkkmjicphgaa
open Go.RowKit
theorem strCells_vb (s : ByteArray) : Lib.strCells s = vb s.data.toList := by
  unfold Lib.strCells vb
  rfl
def encT (s : List UInt8) : List UInt8 := enc s.length ++ s
theorem encT_len (s : List UInt8) : (encT s).length = (enc s.length).length + s.length := by simp [encT]
theorem baLen (s : ByteArray) : s.data.toList.length = s.size := by simp
theorem post_of_own {B : Nat} {w w2 : World} {v : Value} {n m : Nat} {l l' : List UInt8} (hown : w2.ownsRow B 5 1 v m (vb l')) (hm : m = n) (hl : l' = l) (h0 : 0 < n) (hb : Below B w w2) : UintPost B 5 w n l (.returned v) w2 := by
  subst hm hl
  obtain ⟨g, cap, rfl, _, _⟩ := hown.form h0
  exact ⟨g, cap, rfl, hown, hb⟩
set_option maxHeartbeats 400000 in
theorem codec_text (A : Option Addr) (k c : Nat) (l : List UInt8) (s : ByteArray) (w : World) (h : Reads w w.heap.size 1 A k (vb l)) (hk : k ≤ 274877906944) (hs : s.size ≤ 274877906944) :
    Calls Try.prog 11 #[.slice A k c, .string s] w (UintPost w.heap.size 5 w (k + (encT s.data.toList).length) (l ++ encT s.data.toList)) := by
  obtain ⟨i0, hi0, hz0, hz1, hz2⟩ := info_parts info5
  go_enter Try.func11, Try.ntmps11
  go_wp2_with fail
  refine (codec_uint A k c l s.size w h (by omega) (by omega)).mono ?_
  have hlen := enc_len10 (n := s.size) (by omega)
  rintro e w' ⟨g, cap, rfl, hown, hb⟩
  have hB := hb.size
  go_wp2_with (at_builtin; refine Lib.wpList_append_own_string _ rfl _ _ 22 9 rfl w.heap.size 5 i0 Try.underlying22 Try.underlying9 hi0 hz0 hz1 hz2 (.slice (some ⟨g, 0, none⟩) (k + (enc s.size).length) cap) _ _ rfl hown s rfl (by unfold maxLen; omega) (by omega) hB ?_; intro v2 w2 hown2 hg2 hnil)
  go_ret
  rw [strCells_vb, ← vb_app] at hown2
  exact post_of_own hown2 (by rw [encT_len, baLen]; omega) (by rw [encT, baLen, List.append_assoc]) (by have := enc_pos s.size; rw [encT_len, baLen]; omega) (hb.grown hg2 hB (fun j hj => (hown.lt j hj).1))
set_option maxHeartbeats 400000 in
theorem ref_text (A : Option Addr) (k c : Nat) (l : List UInt8) (s : ByteArray) (w : World) (h : Reads w w.heap.size 1 A k (vb l)) (hk : k ≤ 274877906944) (hs : s.size ≤ 274877906944) :
    Calls Try.prog 12 #[.slice A k c, .string s] w (UintPost w.heap.size 5 w (k + (encT s.data.toList).length) (l ++ encT s.data.toList)) := by
  obtain ⟨i0, hi0, hz0, hz1, hz2⟩ := info_parts info5
  go_enter Try.func12, Try.ntmps12
  go_wp2_with fail
  refine (ref_uint A k c l s.size w h (by omega) (by omega)).mono ?_
  have hlen := enc_len10 (n := s.size) (by omega)
  rintro e w' ⟨g, cap, rfl, hown, hb⟩
  have hB := hb.size
  go_wp2_with (at_builtin; refine Lib.wpList_append_own_string _ rfl _ _ 22 9 rfl w.heap.size 5 i0 Try.underlying22 Try.underlying9 hi0 hz0 hz1 hz2 (.slice (some ⟨g, 0, none⟩) (k + (enc s.size).length) cap) _ _ rfl hown s rfl (by unfold maxLen; omega) (by omega) hB ?_; intro v2 w2 hown2 hg2 hnil)
  go_ret
  rw [strCells_vb, ← vb_app] at hown2
  exact post_of_own hown2 (by rw [encT_len, baLen]; omega) (by rw [encT, baLen, List.append_assoc]) (by have := enc_pos s.size; rw [encT_len, baLen]; omega) (hb.grown hg2 hB (fun j hj => (hown.lt j hj).1))
end Go.Proofs.Ytnhpkkmjicphgaa
