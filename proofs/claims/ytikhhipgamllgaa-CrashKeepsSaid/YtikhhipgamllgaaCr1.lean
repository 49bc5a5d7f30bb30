/- crash.Allowed and the reference's; slices.Clone of sectors. Conditions: few writes, a number within its kind. -/
import Derived.Test.YtikhhipgamllgaaWr
import Derived.Test.YtikhhipgamllgaaAllowR
import Derived.WalkSpells
namespace Go.Proofs.Ytikhhipgamllgaa
open Go.RowKit
theorem own_slice {w : World} {base : Nat} {e : TypeId} {size n : Nat} {v : Value} {xs : List Value} (h : w.ownsRow base e size v n xs) : ∃ A c, v = .slice A n c ∧ Reads w w.heap.size size A n xs := by
  rcases h.2 with ⟨rfl, rfl⟩ | ⟨g, cap, cur, rfl, _⟩
  · exact ⟨none, 0, rfl, Reads.of_own h⟩
  · exact ⟨_, _, rfl, Reads.of_own h⟩
theorem eps_len (ws : List Wr) : (eps ws).length = ws.length := by simp [eps]
set_option maxHeartbeats 1000000 in
theorem callow_any (c : Nat) (S : Value) (A : Option Addr) (cap : Nat) (ws : List Wr) (w : World) (hc : c < 18446744073709551616) (hn : ws.length ≤ 1000) (hr : Reads w w.heap.size 36 A ws.length (ws.flatMap cellsW)) :
    Calls Try.prog 35 #[.agg #[S, .slice A ws.length cap], .int .u64 c] w fun o w' => o = .returned (.bool (allowB c (eps ws))) ∧ Below w.heap.size w w' := by
  have HC := Lib.hid hc
  have HR := Lib.hid hr
  clear hc hr
  go_enter Try.func35, Try.ntmps35
  go_wp2_with fail
  refine (epochs_any S A cap ws _ hn ((HR.out.alloc (Nat.le_refl _) _).more (by simp))).mono ?_
  rintro o w1 ⟨v, rfl, hown, hb⟩
  obtain ⟨A1, c1, rfl, hr1⟩ := own_slice hown
  have HR1 := Lib.hid hr1
  have HB := Lib.hid hb
  clear hown hr1 hb
  go_wp2_with fail
  have h := allow_any c A1 c1 (eps ws) w1 HC.out (by rw [eps_len]; exact HR1.out)
  rw [eps_len] at h
  refine h.mono ?_
  rintro o w' ⟨rfl, rfl⟩
  go_wp2_with fail
  go_ret
  exact ⟨rfl, below_box' HB.out⟩
set_option maxHeartbeats 1000000 in
theorem crallow_any (c : Nat) (S : Value) (A : Option Addr) (cap : Nat) (ws : List Wr) (w : World) (hc : c < 18446744073709551616) (hn : ws.length ≤ 1000) (hr : Reads w w.heap.size 36 A ws.length (ws.flatMap cellsW)) :
    Calls Try.prog 36 #[.agg #[S, .slice A ws.length cap], .int .u64 c] w fun o w' => o = .returned (.bool (allowB c (eps ws))) ∧ Below w.heap.size w w' := by
  have HC := Lib.hid hc
  have HR := Lib.hid hr
  clear hc hr
  go_enter Try.func36, Try.ntmps36
  go_wp2_with fail
  refine (repochs_any S A cap ws _ hn ((HR.out.alloc (Nat.le_refl _) _).more (by simp))).mono ?_
  rintro o w1 ⟨v, rfl, hown, hb⟩
  obtain ⟨A1, c1, rfl, hr1⟩ := own_slice hown
  have HR1 := Lib.hid hr1
  have HB := Lib.hid hb
  clear hown hr1 hb
  go_wp2_with fail
  have h := rallow_any c A1 c1 (eps ws) w1 HC.out (by rw [eps_len]; exact HR1.out)
  rw [eps_len] at h
  refine h.mono ?_
  rintro o w' ⟨rfl, hb2⟩
  have HB2 := Lib.hid hb2
  clear hb2
  go_wp2_with fail
  go_ret
  exact ⟨rfl, below_box' (HB.out.trans (HB2.out.mono HB.out.size))⟩
theorem info66' : (Try.prog.info? 66).map (fun i => (i.size, i.bytes)) = some (32, 32) := by kernel_rfl
theorem row66 : ∃ (i : TypeInfo) (z : Array Value), Try.prog.info? 66 = some i ∧ i.zero = some (.agg z) ∧ i.size = 32 ∧ i.bytes = 32 ∧ (Value.agg z).cells.size = 32 := by
  obtain ⟨z, hz, hs⟩ := zero66
  have h := info66'
  cases hq : Try.prog.info? 66 with
  | none => rw [hq] at hz; cases hz
  | some i =>
    rw [hq] at hz h
    simp only [Option.map_some, Option.some.injEq, Prod.mk.injEq] at hz h
    exact ⟨i, z, rfl, hz, h.1, h.2, hs⟩
theorem secs_one (l : List Sec) : ∀ u ∈ l.flatMap cellsS, u.oneCell' = true := fun u hu => by
  obtain ⟨s, _, h⟩ := List.mem_flatMap.1 hu
  exact cellsS_one s u h
set_option maxHeartbeats 1000000 in
theorem clone_secs (A : Option Addr) (cap : Nat) (l : List Sec) (w : World) (hn : l.length ≤ 1000) (hr : Reads w w.heap.size 32 A l.length (l.flatMap cellsS)) :
    Calls Try.prog 80 #[.slice A l.length cap] w (GotRow w 66 32 l.length (l.flatMap cellsS)) := by
  obtain ⟨n, hnn⟩ : ∃ n, n = l.length := ⟨_, rfl⟩
  have HN := Lib.hid hnn
  have HR := Lib.hid hr
  rw [← hnn] at hn ⊢
  clear hr hnn
  obtain ⟨i66, z, hi, hz, hs, hby, hzs⟩ := row66
  have HI := Lib.hid hi
  have HZ := Lib.hid hz
  have HS := Lib.hid hs
  have HBY := Lib.hid hby
  have HZS := Lib.hid hzs
  clear hi hz hs hby hzs
  have heq := fun (W : World) (A : Option Addr) (c : Nat) => Lib.run_eql_slice_nil (P := Try.prog) W 40 66 A n c 0 0 Try.underlying40
  cases A with
  | none =>
    have hl : n = 0 := by
      rcases Nat.eq_zero_or_pos n with h | h
      · exact h
      · obtain ⟨ad, h1, _⟩ := HR.out.2 (by rw [← HN.out]; exact h)
        cases h1
    have HL := Lib.hid hl
    clear hl
    go_enter Try.func80, Try.ntmps80
    go_wp2
    go_ret
    have e : l = [] := List.eq_nil_of_length_eq_zero (by rw [← HN.out]; exact HL.out)
    exact ⟨_, rfl, by rw [HL.out, e]; exact World.ownsRow_nil _ _ _ _, Below.refl _ _⟩
  | some ad =>
    go_enter Try.func80, Try.ntmps80
    go_wp2_with (at_builtin; refine wpList_append_any _ rfl (.tmp 5) (.tmp 6) 40 rfl w.heap.size 66 i66 (.agg z) 32 32 Try.underlying40 HI.out HZ.out HS.out HBY.out HZS.out (by decide) (.slice (some ⟨w.heap.size, 0, none⟩) 0 0) 0 [] rfl (World.ownsRow_lit w #[] 0 (Nat.le_refl _) (by decide) (by simp)) w.heap.size (some ad) n cap (l.flatMap cellsS) rfl (by rw [HN.out]; exact HR.out.alloc (Nat.le_refl _) _) (secs_one l) (by unfold maxLen; omega) (by omega) (by simp) ?_; intro v2 w2 hown2 hgrow2 _)
    rw [Nat.zero_add, List.nil_append] at hown2
    go_ret
    exact ⟨v2, rfl, hown2, ((Below.refl _ w).alloc (Nat.le_refl _) _).grown hgrow2 (by simp) (fun g hg => by cases hg; exact Nat.le_refl _)⟩
end Go.Proofs.Ytikhhipgamllgaa
