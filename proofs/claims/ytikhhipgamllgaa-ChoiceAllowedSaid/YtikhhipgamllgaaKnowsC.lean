/- 'flotsamlaw02.knows' returns true. Conditions: none. -/
import Derived.Test.YtikhhipgamllgaaAllow
import Derived.Test.YtikhhipgamllgaaShow
import Derived.Test.YtikhhipgamllgaaCount
namespace Go.Proofs.Ytikhhipgamllgaa
open Go.RowKit
theorem show62 (w : World) : Calls Try.prog 29 #[.int .u64 6, .int .i64 2] w fun o w' => o = .returned (.string ⟨#[116, 107]⟩) ∧ Below w.heap.size w w' := by
  have h := show_any 6 2 w (by omega)
  rw [show (shw 6 2).toArray = #[116, 107] from rfl] at h
  exact h
theorem fate60 (w : World) : Calls Try.prog 12 #[.int .u64 6, .int .i64 0] w fun o w' => o = .returned (.int .i64 2) ∧ w = w' := by
  have h := fate_any 6 0 w (by omega)
  rw [show fateI 6 0 = 2 from rfl] at h
  exact h
theorem count3 (w : World) : Calls Try.prog 21 #[.int .i64 3, .bool true] w fun o w' => o = .returned (.int .u64 27) ∧ w = w' := by
  have h := count_any 3 true w
  rw [show ((cnt 3 true : Nat) : Int) = 27 from rfl] at h
  exact h
theorem right62 (w : World) : Calls Try.prog 16 #[.int .u64 6, .int .i64 2] w fun o w' => o = .returned (.bool true) ∧ w = w' := by
  have h := right_any 6 2 w (by omega)
  rw [show rightB 6 2 = true by decide] at h
  exact h
theorem two_reads (w : World) (g : Nat) (h : Blk w g 3 #[.int .i64 0, .int .i64 1]) : Reads w w.heap.size 1 (some ⟨g, 0, none⟩) 2 (iz [0, 1]) :=
  ⟨rfl, fun _ => ⟨⟨g, 0, none⟩, rfl, h.lt, fun j u hu => by
    have e : (Addr.add ⟨g, 0, none⟩ j) = ⟨g, j, none⟩ := by
      simp [Addr.add]
      exact fun h => h.symm
    rw [e, h.cell j, ← hu]
    simp [iz]⟩⟩
theorem allow1 (w : World) (g : Nat) (h : Blk w g 3 #[.int .i64 0, .int .i64 1]) : Calls Try.prog 27 #[.int .u64 1, .slice (some ⟨g, 0, none⟩) 2 2] w fun o w' => o = .returned (.bool true) ∧ w = w' := by
  have h := allow_any 1 (some ⟨g, 0, none⟩) 2 [0, 1] w (by omega) (two_reads w g h)
  rw [show allowB 1 [0, 1] = true by decide] at h
  exact h
theorem allow4 (w : World) (g : Nat) (h : Blk w g 3 #[.int .i64 0, .int .i64 1]) : Calls Try.prog 27 #[.int .u64 4, .slice (some ⟨g, 0, none⟩) 2 2] w fun o w' => o = .returned (.bool false) ∧ w = w' := by
  have h := allow_any 4 (some ⟨g, 0, none⟩) 2 [0, 1] w (by omega) (two_reads w g h)
  rw [show allowB 4 [0, 1] = false by decide] at h
  exact h
set_option maxRecDepth 10000 in
set_option maxHeartbeats 200000 in
theorem knows_any (w : World) : Calls Try.prog 18 #[] w fun o w' => o = .returned (.bool true) ∧ Below w.heap.size w w' := by
  go_enter Try.func18, Try.ntmps18
  go_wp2_with (go_at_call 29; refine (show62 _).mono ?_; rintro o w1 ⟨rfl, hb⟩)
  refine (fate60 _).mono ?_
  rintro o w' ⟨rfl, rfl⟩
  go_wp2_with fail
  refine (count3 _).mono ?_
  rintro o w' ⟨rfl, rfl⟩
  go_wp2_with fail
  refine (allow1 _ _ (Blk.new w1 3 _)).mono ?_
  rintro o w' ⟨rfl, rfl⟩
  go_wp2_with fail
  refine (allow4 ((w1.alloc (.cells #[.int .i64 0, .int .i64 1] 3)).alloc (.cells #[.int .i64 0, .int .i64 1] 3)) (w1.heap.size + 1) (heap_alloc2_new w1 _ _)).mono ?_
  rintro o w' ⟨rfl, rfl⟩
  go_wp2_with fail
  refine (right62 _).mono ?_
  rintro o w' ⟨rfl, rfl⟩
  go_wp2_with fail
  go_ret
  exact ⟨rfl, (hb.alloc hb.size _).alloc (by have := hb.size; simp; omega) _⟩
end Go.Proofs.Ytikhhipgamllgaa
