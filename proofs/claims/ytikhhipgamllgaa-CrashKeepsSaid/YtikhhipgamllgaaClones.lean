/- slices.Clone of writes, tags, events. Conditions: few. -/
import Derived.Test.YtikhhipgamllgaaNote
namespace Go.Proofs.Ytikhhipgamllgaa
open Go.RowKit
theorem zero69 : ∃ z : Array Value, (Try.prog.info? 69).map (fun i => i.zero) = some (some (.agg z)) ∧ z.size = 2 := zero_of (by kernel_rfl)
theorem info69b : (Try.prog.info? 69).map (fun i => (i.size, i.bytes)) = some (2, 16) := by kernel_rfl
theorem row69' : ∃ (i : TypeInfo) (z : Array Value), Try.prog.info? 69 = some i ∧ i.zero = some (.agg z) ∧ i.size = 2 ∧ i.bytes = 16 ∧ (Value.agg z).cells.size = 2 := by
  obtain ⟨z, hz, hs⟩ := zero69
  have h := info69b
  cases hq : Try.prog.info? 69 with
  | none => rw [hq] at hz; cases hz
  | some i =>
    rw [hq] at hz h
    simp only [Option.map_some, Option.some.injEq, Prod.mk.injEq] at hz h
    exact ⟨i, z, rfl, hz, h.1, h.2, hs⟩
set_option maxHeartbeats 1000000 in
theorem clone_wrs (A : Option Addr) (cap : Nat) (l : List Wr) (w : World) (hn : l.length ≤ 1000) (hr : Reads w w.heap.size 36 A l.length (l.flatMap cellsW)) :
    Calls Try.prog 89 #[.slice A l.length cap] w (GotRow w 108 36 l.length (l.flatMap cellsW)) := by
  obtain ⟨n, hnn⟩ : ∃ n, n = l.length := ⟨_, rfl⟩
  have HN := Lib.hid hnn
  have HR := Lib.hid hr
  rw [← hnn] at hn ⊢
  clear hr hnn
  obtain ⟨i108, z, hi, hz, hs, hby, hzs⟩ := row108'
  have HI := Lib.hid hi
  have HZ := Lib.hid hz
  have HS := Lib.hid hs
  have HBY := Lib.hid hby
  have HZS := Lib.hid hzs
  clear hi hz hs hby hzs
  have heq := fun (W : World) (A : Option Addr) (c : Nat) => Lib.run_eql_slice_nil (P := Try.prog) W 41 108 A n c 0 0 Try.underlying41
  cases A with
  | none =>
    have hl : n = 0 := by
      rcases Nat.eq_zero_or_pos n with h | h
      · exact h
      · obtain ⟨ad, h1, _⟩ := HR.out.2 (by rw [← HN.out]; exact h)
        cases h1
    have HL := Lib.hid hl
    clear hl
    go_enter Try.func89, Try.ntmps89
    go_wp2
    go_ret
    have e : l = [] := List.eq_nil_of_length_eq_zero (by rw [← HN.out]; exact HL.out)
    exact ⟨_, rfl, by rw [HL.out, e]; exact World.ownsRow_nil _ _ _ _, Below.refl _ _⟩
  | some ad =>
    go_enter Try.func89, Try.ntmps89
    go_wp2_with (at_builtin; refine wpList_append_any _ rfl (.tmp 5) (.tmp 6) 41 rfl w.heap.size 108 i108 (.agg z) 36 64 Try.underlying41 HI.out HZ.out HS.out HBY.out HZS.out (by decide) (.slice (some ⟨w.heap.size, 0, none⟩) 0 0) 0 [] rfl (World.ownsRow_lit w #[] 0 (Nat.le_refl _) (by decide) (by simp)) w.heap.size (some ad) n cap (l.flatMap cellsW) rfl (by rw [HN.out]; exact HR.out.alloc (Nat.le_refl _) _) (writes_one l) (by unfold maxLen; omega) (by omega) (by simp) ?_; intro v2 w2 hown2 hgrow2 _)
    rw [Nat.zero_add, List.nil_append] at hown2
    go_ret
    exact ⟨v2, rfl, hown2, ((Below.refl _ w).alloc (Nat.le_refl _) _).grown hgrow2 (by simp) (fun g hg => by cases hg; exact Nat.le_refl _)⟩
set_option maxHeartbeats 1000000 in
theorem clone_tags (A : Option Addr) (cap : Nat) (l : List Tg) (w : World) (hn : l.length ≤ 1000) (hr : Reads w w.heap.size 2 A l.length (l.flatMap cellsT)) :
    Calls Try.prog 91 #[.slice A l.length cap] w (GotRow w 69 2 l.length (l.flatMap cellsT)) := by
  obtain ⟨n, hnn⟩ : ∃ n, n = l.length := ⟨_, rfl⟩
  have HN := Lib.hid hnn
  have HR := Lib.hid hr
  rw [← hnn] at hn ⊢
  clear hr hnn
  obtain ⟨i69, z, hi, hz, hs, hby, hzs⟩ := row69'
  have HI := Lib.hid hi
  have HZ := Lib.hid hz
  have HS := Lib.hid hs
  have HBY := Lib.hid hby
  have HZS := Lib.hid hzs
  clear hi hz hs hby hzs
  have heq := fun (W : World) (A : Option Addr) (c : Nat) => Lib.run_eql_slice_nil (P := Try.prog) W 70 69 A n c 0 0 Try.underlying70
  cases A with
  | none =>
    have hl : n = 0 := by
      rcases Nat.eq_zero_or_pos n with h | h
      · exact h
      · obtain ⟨ad, h1, _⟩ := HR.out.2 (by rw [← HN.out]; exact h)
        cases h1
    have HL := Lib.hid hl
    clear hl
    go_enter Try.func91, Try.ntmps91
    go_wp2
    go_ret
    have e : l = [] := List.eq_nil_of_length_eq_zero (by rw [← HN.out]; exact HL.out)
    exact ⟨_, rfl, by rw [HL.out, e]; exact World.ownsRow_nil _ _ _ _, Below.refl _ _⟩
  | some ad =>
    go_enter Try.func91, Try.ntmps91
    go_wp2_with (at_builtin; refine wpList_append_any _ rfl (.tmp 5) (.tmp 6) 70 rfl w.heap.size 69 i69 (.agg z) 2 16 Try.underlying70 HI.out HZ.out HS.out HBY.out HZS.out (by decide) (.slice (some ⟨w.heap.size, 0, none⟩) 0 0) 0 [] rfl (World.ownsRow_lit w #[] 0 (Nat.le_refl _) (by decide) (by simp)) w.heap.size (some ad) n cap (l.flatMap cellsT) rfl (by rw [HN.out]; exact HR.out.alloc (Nat.le_refl _) _) (tags_one l) (by unfold maxLen; omega) (by omega) (by simp) ?_; intro v2 w2 hown2 hgrow2 _)
    rw [Nat.zero_add, List.nil_append] at hown2
    go_ret
    exact ⟨v2, rfl, hown2, ((Below.refl _ w).alloc (Nat.le_refl _) _).grown hgrow2 (by simp) (fun g hg => by cases hg; exact Nat.le_refl _)⟩
set_option maxHeartbeats 1000000 in
theorem clone_evs (A : Option Addr) (cap : Nat) (l : List Ev) (w : World) (hn : l.length ≤ 1000) (hr : Reads w w.heap.size 38 A l.length (l.flatMap cellsE)) :
    Calls Try.prog 100 #[.slice A l.length cap] w (GotRow w 142 38 l.length (l.flatMap cellsE)) := by
  obtain ⟨n, hnn⟩ : ∃ n, n = l.length := ⟨_, rfl⟩
  have HN := Lib.hid hnn
  have HR := Lib.hid hr
  rw [← hnn] at hn ⊢
  clear hr hnn
  obtain ⟨i142, z, hi, hz, hs, hby, hzs⟩ := row142'
  have HI := Lib.hid hi
  have HZ := Lib.hid hz
  have HS := Lib.hid hs
  have HBY := Lib.hid hby
  have HZS := Lib.hid hzs
  clear hi hz hs hby hzs
  have heq := fun (W : World) (A : Option Addr) (c : Nat) => Lib.run_eql_slice_nil (P := Try.prog) W 89 142 A n c 0 0 Try.underlying89
  cases A with
  | none =>
    have hl : n = 0 := by
      rcases Nat.eq_zero_or_pos n with h | h
      · exact h
      · obtain ⟨ad, h1, _⟩ := HR.out.2 (by rw [← HN.out]; exact h)
        cases h1
    have HL := Lib.hid hl
    clear hl
    go_enter Try.func100, Try.ntmps100
    go_wp2
    go_ret
    have e : l = [] := List.eq_nil_of_length_eq_zero (by rw [← HN.out]; exact HL.out)
    exact ⟨_, rfl, by rw [HL.out, e]; exact World.ownsRow_nil _ _ _ _, Below.refl _ _⟩
  | some ad =>
    go_enter Try.func100, Try.ntmps100
    go_wp2_with (at_builtin; refine wpList_append_any _ rfl (.tmp 5) (.tmp 6) 89 rfl w.heap.size 142 i142 (.agg z) 38 96 Try.underlying89 HI.out HZ.out HS.out HBY.out HZS.out (by decide) (.slice (some ⟨w.heap.size, 0, none⟩) 0 0) 0 [] rfl (World.ownsRow_lit w #[] 0 (Nat.le_refl _) (by decide) (by simp)) w.heap.size (some ad) n cap (l.flatMap cellsE) rfl (by rw [HN.out]; exact HR.out.alloc (Nat.le_refl _) _) (evs_one l) (by unfold maxLen; omega) (by omega) (by simp) ?_; intro v2 w2 hown2 hgrow2 _)
    rw [Nat.zero_add, List.nil_append] at hown2
    go_ret
    exact ⟨v2, rfl, hown2, ((Below.refl _ w).alloc (Nat.le_refl _) _).grown hgrow2 (by simp) (fun g hg => by cases hg; exact Nat.le_refl _)⟩
end Go.Proofs.Ytikhhipgamllgaa
