/- Same and Ints over equal lists. Conditions: few elements. -/
import Derived.Test.YtikhhipgamllgaaDoorUnl
namespace Go.Proofs.YtikhhipgamllgaaDoor
open Go.RowKit
theorem unlB_self (l : List Sec) {k : Nat} (h : k < l.length) : unlB l l k = false := by
  rw [unlB_both (List.getElem?_eq_getElem h) (List.getElem?_eq_getElem h)]; simp
theorem unlN_self (l : List Sec) : ∀ k, k ≤ l.length → unlN l l k = []
  | 0, _ => rfl
  | k + 1, h => by rw [unlN_no (unlB_self l (by omega))]; exact unlN_self l k (by omega)
theorem unl_self (l : List Sec) : unl l l = [] := unlN_self l _ (by omega)
set_option maxHeartbeats 1000000 in
theorem same_any (A A' : Option Addr) (c c' : Nat) (l : List Sec) (w : World) (hn : l.length ≤ 1000) (hr : Reads w w.heap.size 32 A l.length (l.flatMap cellsS)) (hr' : Reads w w.heap.size 32 A' l.length (l.flatMap cellsS)) :
    Calls Tryd.prog 8 #[.slice A l.length c, .slice A' l.length c'] w fun o w' => o = .returned (.bool true) ∧ Below w.heap.size w w' := by
  have HR := Lib.hid hr
  have HR' := Lib.hid hr'
  have HL := Lib.hid (unl_self l)
  clear hr hr'
  go_enter Tryd.func8, Tryd.ntmps8
  go_wp2_with (go_at_call 13; refine (runlike_any A A' c c' l l _ hn hn HR.out HR'.out).mono ?_; rintro o w' ⟨v, rfl, hown, hb⟩; obtain ⟨A1, c1, rfl, -⟩ := own_slice hown; rw [HL.out]; have HB := Lib.hid hb; clear hown hb)
  go_ret
  exact ⟨rfl, HB.out⟩
set_option maxHeartbeats 1000000 in
theorem ints_any (A A' : Option Addr) (c c' : Nat) (l : List Int) (w : World) (hn : l.length ≤ 1000) (hr : Reads w w.heap.size 1 A l.length (iz l)) (hr' : Reads w w.heap.size 1 A' l.length (iz l)) :
    Calls Tryd.prog 11 #[.slice A l.length c, .slice A' l.length c'] w fun o w' => o = .returned (.bool true) ∧ ∃ m, w' = w.drewN m := by
  obtain ⟨n, hnn⟩ : ∃ n, n = l.length := ⟨_, rfl⟩
  have HN := Lib.hid hnn
  have HR := Lib.hid hr
  have HR' := Lib.hid hr'
  rw [← hnn] at hn ⊢
  clear hr hr' hnn
  go_enter Tryd.func11, Tryd.ntmps11
  go_wp2
  go_loopw [5] (fun i wr => ∃ k : Nat, k ≤ n ∧ i = .int .i64 k ∧ ∃ m, wr = w.drewN m) (fun i _ => n - (intOf i).toNat)
  case atStart => exact ⟨0, by omega, rfl, 0, rfl⟩
  case round =>
    obtain ⟨k, hk, rfl, m, rfl⟩ := hrel
    by_cases hlt : k < n
    · have hl : k < l.length := by rw [← HN.out]; exact hlt
      obtain ⟨ad, u, rfl, hb, hu, hc⟩ := (HN.out ▸ HR.out : Reads w w.heap.size 1 A n (iz l)).at_ hlt
      obtain ⟨ad', u', rfl, hb', hu', hc'⟩ := (HN.out ▸ HR'.out : Reads w w.heap.size 1 A' n (iz l)).at_ hlt
      obtain ⟨x, hx⟩ : ∃ x, l[k] = x := ⟨_, rfl⟩
      have e : (iz l)[k]? = some (.int .i64 x) := by rw [← hx]; simp [iz, hl]
      rw [e] at hu hu'
      injection hu with hu
      injection hu' with hu'
      subst hu
      subst hu'
      clear hb hb' hx e hl
      go_wp2
      refine wp_region_quiet_lit (by kernel_rfl) (by kernel_rfl) ?_
      repeat (first | go_big_quiet_skip | (go_big_quiet_want; (go_big_quiet_op; go_big_quiet_on)))
      refine wpQuiet_nil ?_
      rintro _ ⟨nq, rfl⟩
      go_wp2
      exact ⟨⟨k + 1, by omega, by go_num, m + nq, rfl⟩, by simp [intOf]; omega⟩
    · obtain rfl : k = n := by omega
      go_wp2
      go_ret
      exact ⟨rfl, m, rfl⟩
end Go.Proofs.YtikhhipgamllgaaDoor
