/- The walk of ChoiceAllowed. Conditions: numbers within their kinds; the epochs' row reads. -/
import Derived.Test.YtikhhipgamllgaaBackW
import Derived.Test.YtikhhipgamllgaaAllowR
import Derived.Test.YtikhhipgamllgaaShowR
import Derived.Test.YtikhhipgamllgaaReadR
namespace Go.Proofs.Ytikhhipgamllgaa
open Go.RowKit
theorem readV_form (l : List UInt8) : ∃ (a : Nat) (b : Int) (r : Bool), readV l = .tuple #[.int .u64 a, .int .i64 b, .bool r] := by
  unfold readV
  split
  · exact ⟨_, _, _, rfl⟩
  · exact ⟨0, 0, false, rfl⟩
set_option maxRecDepth 10000 in
set_option maxHeartbeats 1000000 in
theorem allowed_bad (c : Int) (A : Option Addr) (len cap : Nat) (n : Int) (s : ByteArray) (w : World) (h : 100 < len ∨ 200 < s.size) :
    Calls Try.prog 5 #[.int .u64 c, .slice A len cap, .int .i64 n, .string s] w fun o w' => o = .returned (.bool true) ∧ Below w.heap.size w w' := by
  by_cases h1 : 100 < len
  · clear h
    go_enter Try.func5, Try.ntmps5
    go_wp2_with (go_at_call 18; refine (knows_any _).mono ?_; rintro o w1 ⟨rfl, hb1⟩)
    go_ret
    exact ⟨rfl, hb1⟩
  · have h2 : 200 < s.size := by omega
    clear h
    go_enter Try.func5, Try.ntmps5
    go_wp2_with (go_at_call 18; refine (knows_any _).mono ?_; rintro o w1 ⟨rfl, hb1⟩)
    go_ret
    exact ⟨rfl, hb1⟩
set_option maxRecDepth 10000 in
set_option maxHeartbeats 1000000 in
theorem allowed_good (c : Nat) (A : Option Addr) (m cap : Nat) (e : List Int) (n : Int) (s : ByteArray) (w : World) (hc : c < 18446744073709551616) (hm : m = e.length) (hm1 : ¬ 100 < m) (hs : ¬ 200 < s.size) (hr : Reads w w.heap.size 1 A e.length (iz e)) :
    Calls Try.prog 5 #[.int .u64 c, .slice A m cap, .int .i64 n, .string s] w fun o w' => o = .returned (.bool true) ∧ Below w.heap.size w w' := by
  have HR := Lib.hid hr
  have HC := Lib.hid hc
  obtain ⟨a, b, r, hv⟩ := readV_form s.data.toList
  have C25 : Hid (∀ w, Calls Try.prog 25 #[.string s] w fun o w' => o = .returned (.tuple #[.int .u64 a, .int .i64 b, .bool r]) ∧ Below w.heap.size w w') := Lib.hid (fun w => by rw [← hv]; exact read_any s w)
  have C26 : Hid (∀ w, Calls Try.prog 26 #[.string s] w fun o w' => o = .returned (.tuple #[.int .u64 a, .int .i64 b, .bool r]) ∧ Below w.heap.size w w') := Lib.hid (fun w => by rw [← hv]; exact rread_any s w)
  obtain ⟨x, hx⟩ : ∃ x, x = allowB c e := ⟨_, rfl⟩
  have C27 : Hid (∀ w, Reads w w.heap.size 1 A e.length (iz e) → Calls Try.prog 27 #[.int .u64 c, .slice A m cap] w fun o w' => o = .returned (.bool x) ∧ w = w') := Lib.hid (fun w hr => by rw [hm, hx]; exact allow_any c A cap e w hc hr)
  have C28 : Hid (∀ w, Reads w w.heap.size 1 A e.length (iz e) → Calls Try.prog 28 #[.int .u64 c, .slice A m cap] w fun o w' => o = .returned (.bool x) ∧ Below w.heap.size w w') := Lib.hid (fun w hr => by rw [hm, hx]; exact rallow_any c A cap e w hc hr)
  obtain ⟨st, hst⟩ : ∃ st : ByteArray, st = ⟨(shw c n).toArray⟩ := ⟨_, rfl⟩
  have C29 : Hid (∀ w, Calls Try.prog 29 #[.int .u64 c, .int .i64 n] w fun o w' => o = .returned (.string st) ∧ Below w.heap.size w w') := Lib.hid (fun w => by rw [hst]; exact show_any c n w hc)
  have C30 : Hid (∀ w, Calls Try.prog 30 #[.int .u64 c, .int .i64 n] w fun o w' => o = .returned (.string st) ∧ Below w.heap.size w w') := Lib.hid (fun w => by rw [hst]; exact rshow_any c n w hc)
  clear hr hc hv hx hst hm
  go_enter Try.func5, Try.ntmps5
  go_wp2_with (first | (go_at_call 25; refine (C25.out _).mono ?_; rintro o w1 ⟨rfl, hb1⟩) | (go_at_call 26; refine (C26.out _).mono ?_; rintro o w2 ⟨rfl, hb2⟩; have hbw := hb1.trans (hb2.mono hb1.size); have HR2 := Lib.hid ((HR.out.below hbw).more hbw.size); clear hbw) | (go_at_call 27; refine (C27.out _ HR2.out).mono ?_; rintro o w' ⟨rfl, rfl⟩) | (go_at_call 28; refine (C28.out _ HR2.out).mono ?_; rintro o w3 ⟨rfl, hb3⟩) | (go_at_call 29; refine (C29.out _).mono ?_; rintro o w4 ⟨rfl, hb4⟩) | (go_at_call 30; refine (C30.out _).mono ?_; rintro o w5 ⟨rfl, hb5⟩) | (go_at_call 18; refine (knows_any _).mono ?_; rintro o w6 ⟨rfl, hb6⟩))
  go_ret
  have s1 := hb1.size
  have s2 := hb2.size
  have s3 := hb3.size
  have s4 := hb4.size
  have s5 := hb5.size
  exact ⟨rfl, ((((hb1.trans (hb2.mono (by omega))).trans (hb3.mono (by omega))).trans (hb4.mono (by omega))).trans (hb5.mono (by omega))).trans (hb6.mono (by omega))⟩
end Go.Proofs.Ytikhhipgamllgaa
