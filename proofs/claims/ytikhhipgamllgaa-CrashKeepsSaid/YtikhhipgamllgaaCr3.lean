/- A sector equals itself; a write equals itself; the reference's Unlike over equal lists; Same. Conditions: few sectors. -/
import Derived.Test.YtikhhipgamllgaaCr2
import Derived.ChangeKeysEq
namespace Go.Proofs.Ytikhhipgamllgaa
open Go.RowKit
theorem range_drewN {w : World} {b o n : Nat} {cs : List Value} (h : w.rangeAt b o cs) : (w.drewN n).rangeAt b o cs := h
theorem info5 : ∃ i, Try.prog.info? 5 = some i := Option.isSome_iff_exists.1 (by kernel_rfl)
theorem eqItems_self (w : World) (d : Nat) (xs : Array Value) : ∀ is : List Nat, (∀ i ∈ is, ∃ n : Int, xs[i]? = some (.int .u8 n)) → (Op.eqItems (d + 1) 5 1 xs xs is).run Try.prog w = .ok true w
  | [], _ => by simp [Op.eqItems]
  | i :: is, h => by
    obtain ⟨n, hn⟩ := h i (by simp)
    have hp : (part 5 xs (i * 1)).run Try.prog w = .ok (.int .u8 n) w := by
      rw [Nat.mul_one]
      simp [part, isAgg, run_underlying Try.underlying5, hn]
    simp only [Op.eqItems, Sem.run_bind, hp, Result.andThen_ok, run_equalIn_int w d 5 .u8 .u8 n n Try.underlying5, beq_self_eq_true, Bool.not_true, Bool.false_eq_true, if_false]
    exact eqItems_self w d xs is fun j hj => h j (by simp [hj])
theorem equalIn_sec (w : World) (d : Nat) (s : Sec) : (Op.equalIn (d + 2) 66 (.agg (cellsS s).toArray) (.agg (cellsS s).toArray)).run Try.prog w = .ok true w := by
  obtain ⟨i5, h5⟩ := info5
  rw [run_equalIn_array w (d + 1) _ _ Try.underlying66 h5]
  have hc : Try.prog.cellsOf 5 = 1 := by kernel_rfl
  rw [hc]
  refine eqItems_self w d _ _ fun i hi => ?_
  have hi' : i < (cellsS s).length := by rw [cellsS_len]; simpa using hi
  obtain ⟨n, hn⟩ := s.2.2 _ (List.getElem_mem hi')
  exact ⟨n, by rw [List.getElem?_toArray, List.getElem?_eq_getElem hi']; exact congrArg some hn⟩
theorem neq_sec (w : World) (s : Sec) : (binOp .neq 66 (.agg (cellsS s).toArray) (.agg (cellsS s).toArray)).run Try.prog w = .ok (.bool false) w := by
  rw [run_neq_struct, equalIn_sec w 9998 s]; rfl
theorem guard_sec (w : World) (op : BinOp) (x y : Operand) (s t : Array Value) : (eqGuard op 66 x y (.agg s) (.agg t)).run Try.prog w = .ok () w := run_eqGuard_agg w op 66 x y s t (by kernel_rfl)
set_option maxRecDepth 100000 in
set_option maxHeartbeats 1000000 in
theorem unlike_any (A A' : Option Addr) (c c' : Nat) (l : List Sec) (w : World) (hn : l.length ≤ 1000) (hr : Reads w w.heap.size 32 A l.length (l.flatMap cellsS)) (hr' : Reads w w.heap.size 32 A' l.length (l.flatMap cellsS)) :
    Calls Try.prog 83 #[.slice A l.length c, .slice A' l.length c'] w fun o w' => o = .returned (.slice none 0 0) ∧ ∃ m, w' = w.drewN m := by
  obtain ⟨n, hnn⟩ : ∃ n, n = l.length := ⟨_, rfl⟩
  have HN := Lib.hid hnn
  have HR := Lib.hid hr
  have HR' := Lib.hid hr'
  rw [← hnn] at hn ⊢
  clear hr hr' hnn
  go_enter Try.func83, Try.ntmps83
  go_wp2
  go_loopw [5, 6] (fun v i wr => ∃ k : Nat, k ≤ n ∧ v = .slice none 0 0 ∧ i = .int .i64 k ∧ ∃ m, wr = w.drewN m) (fun _ i _ => n - (intOf i).toNat)
  case atStart => exact ⟨0, by omega, rfl, rfl, 0, rfl⟩
  case round =>
    obtain ⟨k, hk, rfl, rfl, m, rfl⟩ := hrel
    by_cases hlt : k < n
    · have hl : k < l.length := by rw [← HN.out]; exact hlt
      obtain ⟨b, o, rfl, hb, hit⟩ := HR.out.item (f := cellsS) cellsS_len (by omega) hl
      obtain ⟨b', o', rfl, hb', hit'⟩ := HR'.out.item (f := cellsS) cellsS_len (by omega) hl
      have HI := Lib.hid (hit k _ (List.getElem?_eq_getElem hl))
      have HI' := Lib.hid (hit' k _ (List.getElem?_eq_getElem hl))
      obtain ⟨s, hs⟩ : ∃ s, l[k] = s := ⟨_, rfl⟩
      rw [hs] at HI HI'
      have hge : decide (n ≤ k) = false := by simp; omega
      clear hit hit' hs hl
      go_wp2
      refine wp_region_quiet_lit (by kernel_rfl) (by kernel_rfl) ?_
      repeat (first | go_big_quiet_skip | (go_big_quiet_want; first | (with_reducible show Oper.quiet _ (Oper.mk _ (Op.load 66 (.tmp 32)) _ _ _ _) _ _ _; (refine quiet_load_mid 66 (.tmp 32) rfl b (o + k * 32) rfl (cellsS s) _ (fun W hW => hW.elim fun j hj => by subst hj; exact range_drewN (range_drewN HI.out)) Try.underlying66 rfl (by rw [cellsS_len]; exact info66) ?_; go_frame; go_big_quiet_on)) | (with_reducible show Oper.quiet _ (Oper.mk _ (Op.load 66 (.tmp 36)) _ _ _ _) _ _ _; refine quiet_load_mid 66 (.tmp 36) rfl b' (o' + k * 32) rfl (cellsS s) _ (fun W hW => hW.elim fun j hj => by subst hj; exact range_drewN (range_drewN HI'.out)) Try.underlying66 rfl (by rw [cellsS_len]; exact info66) ?_; go_frame; go_big_quiet_on) | (with_reducible show Oper.quiet _ (Oper.mk _ (Op.binOp BinOp.neq 66 _ _ _) _ _ _ _) _ _ _; (refine quiet_bin .neq 66 66 (.tmp 33) (.tmp 37) rfl (.agg (cellsS s).toArray) (.agg (cellsS s).toArray) (.bool false) rfl rfl (fun W _ => guard_sec W _ _ _ _ _) (fun W _ => neq_sec W s) ?_; go_frame; go_big_quiet_on)) | (go_big_quiet_op; go_big_quiet_on)))
      refine wpQuiet_nil ?_
      rintro _ ⟨nq, rfl⟩
      go_wp2
      exact ⟨⟨k + 1, by omega, rfl, by go_num, m + nq, rfl⟩, by simp [intOf]; omega⟩
    · obtain rfl : k = n := by omega
      go_wp2
      go_ret
      exact ⟨rfl, m, rfl⟩

set_option maxHeartbeats 1000000 in
theorem same_any (A A' : Option Addr) (c c' : Nat) (l : List Sec) (w : World) (hn : l.length ≤ 1000) (hr : Reads w w.heap.size 32 A l.length (l.flatMap cellsS)) (hr' : Reads w w.heap.size 32 A' l.length (l.flatMap cellsS)) :
    Calls Try.prog 34 #[.slice A l.length c, .slice A' l.length c'] w fun o w' => o = .returned (.bool true) ∧ ∃ m, w' = w.drewN m := by
  have HR := Lib.hid hr
  have HR' := Lib.hid hr'
  clear hr hr'
  go_enter Try.func34, Try.ntmps34
  go_wp2_with (go_at_call 83; refine (unlike_any A A' c c' l _ hn HR.out HR'.out).mono ?_; rintro o w' ⟨rfl, m, rfl⟩)
  go_ret
  exact ⟨rfl, m, rfl⟩
end Go.Proofs.Ytikhhipgamllgaa
