/- The reference's All. Conditions: few writes. -/
import Derived.Test.YtikhhipgamllgaaAll
import Derived.Test.YtikhhipgamllgaaNthR
import Derived.Test.YtikhhipgamllgaaCr1
namespace Go.Proofs.Ytikhhipgamllgaa
open Go.RowKit
set_option maxRecDepth 100000 in
set_option maxHeartbeats 2000000 in
theorem rall_few (S : Value) (A : Option Addr) (c : Nat) (ws : List Wr) (t : Bool) (most : Int) (w : World) (hn : ws.length ≤ 8) (hr : Reads w w.heap.size 36 A ws.length (ws.flatMap cellsW)) :
    Calls Try.prog 38 #[.agg #[S, .slice A ws.length c], .bool t, .int .i64 most] w (GotAll w (allL ws.length t (eps ws) most) (allB ws.length t (eps ws) most)) := by
  have CA := fun (x : Nat) (hx : x < 18446744073709551616) (W : World) (hb : Below w.heap.size w W) => crallow_any x S A c ws W hx (by omega) ((hr.below hb).more hb.size)
  obtain ⟨n, hnn⟩ : ∃ n, n = ws.length := ⟨_, rfl⟩
  obtain ⟨es, hes⟩ : ∃ es, es = eps ws := ⟨_, rfl⟩
  rw [← hnn, ← hes] at CA ⊢
  rw [← hnn] at hn
  have HCA := Lib.hid CA
  clear hnn hr CA hes
  obtain ⟨N, hN⟩ : ∃ N, N = cnt n t := ⟨_, rfl⟩
  have hNle : N ≤ 6561 := by rw [hN]; exact cnt_le n t hn
  have HN := Lib.hid hN
  clear hN
  obtain ⟨i0, hi, hz0, hz1, hz2⟩ := info_parts info22'
  have HI := Lib.hid hi
  have HZ0 := Lib.hid hz0
  have HZ1 := Lib.hid hz1
  have HZ2 := Lib.hid hz2
  clear hi hz0 hz1 hz2
  have HBX := Lib.hid (Blk.new w 43 #[S, .slice A n c])
  obtain ⟨w0, hw0⟩ : ∃ w0, w.alloc (.cells #[S, .slice A n c] 43) = w0 := ⟨_, rfl⟩
  have hs0 : w0.heap.size = w.heap.size + 1 := by rw [← hw0]; simp
  rw [hw0] at HBX
  have HB0 : Hid (Below w.heap.size w w0) := by rw [← hw0]; exact Lib.hid ((Below.refl _ w).alloc (Nat.le_refl _) _)
  have HS0 := Lib.hid hs0
  have H0 := Lib.hid hw0
  clear hw0 hs0
  have HUP : Hid (∀ W, Below w0.heap.size w0 W → Below w.heap.size w W) := Lib.hid (fun W hW => HB0.out.trans (hW.mono (by rw [HS0.out]; omega)))
  have HX : Hid (∀ (W : World) (j : Nat), Below w0.heap.size w0 W → W.cell? ⟨w.heap.size, j, none⟩ = (#[S, Value.slice A n c] : Array Value)[j]?) := Lib.hid (fun W j hb => (hb.cell (p := ⟨w.heap.size, j, none⟩) (by show w.heap.size < w0.heap.size; rw [HS0.out]; omega)).trans (HBX.out.cell j))
  have hd8 : decide ((8 : Int) < n) = false := by simp; omega
  go_enter Try.func38, Try.ntmps38
  go_wp2
  rw [H0.out]
  go_loopw [9, 10] (fun v i wr => ∃ k : Nat, k ≤ N ∧ i = .int .u64 k ∧ (∃ A1 c1, v = .slice A1 (chK n t es k).length c1 ∧ Hid (wr.ownsRow w0.heap.size 22 1 (.slice A1 (chK n t es k).length c1) (chK n t es k).length (uz (chK n t es k)))) ∧ (chK n t es k).length ≤ most.toNat ∧ Hid (Below w0.heap.size w0 wr)) (fun _ i _ => N - (intOf i).toNat)
  case atStart => exact ⟨0, by omega, rfl, ⟨none, 0, rfl, Lib.hid (World.ownsRow_nil _ _ _ _)⟩, Nat.zero_le _, Lib.hid (Below.refl _ _)⟩
  case round =>
    obtain ⟨k, hk, rfl, ⟨A1, c1, rfl, HO⟩, hlen, HB⟩ := hrel
    by_cases hlt : k < N
    · have hx64 : nthN k n t < 18446744073709551616 := nthN_lt (by omega)
      obtain ⟨x, hx⟩ : ∃ x, x = nthN k n t := ⟨_, rfl⟩
      have HX64 : Hid (x < 18446744073709551616) := Lib.hid (by rw [hx]; exact hx64)
      have HXX := Lib.hid hx
      have hck : (chK n t es k).length ≤ k := chK_len _ _ _ _
      clear hx hx64
      go_wp2_with (go_at_call 22; refine (rcount_any n t _).mono ?_; rintro e w' ⟨rfl, rfl⟩; rw [← HN.out])
      refine (rnth_any k n t _ (by omega)).mono ?_
      rintro e f1 ⟨rfl, hf1⟩
      rw [← HXX.out]
      have HF1 : Hid (Below w0.heap.size w0 f1) := Lib.hid (HB.out.trans (hf1.mono HB.out.size))
      have HO1 := Lib.hid (own_below HO.out hf1)
      have hb0 : f1.cell? ⟨w.heap.size, 0, none⟩ = some S := HX.out f1 0 HF1.out
      have hb1 : f1.cell? ⟨w.heap.size, 1, none⟩ = some (.slice A n c) := HX.out f1 1 HF1.out
      clear hf1
      go_wp2_with fail
      refine (HCA.out x HX64.out f1 (HUP.out f1 HF1.out)).mono ?_
      rintro e f2 ⟨rfl, hf2⟩
      have HF2 : Hid (Below w0.heap.size w0 f2) := Lib.hid (HF1.out.trans (hf2.mono HF1.out.size))
      have HO2 := Lib.hid (own_below HO1.out hf2)
      clear hf2 hb0 hb1
      cases hal : allowB x es
      · have HIC : Hid (chK n t es (k + 1) = chK n t es k) := Lib.hid (chK_miss (by rw [← HXX.out]; exact hal))
        clear hal
        go_wp2_with fail
        exact ⟨⟨k + 1, by omega, by go_num, ⟨A1, c1, by rw [HIC.out], Lib.hid (by rw [HIC.out]; exact HO2.out)⟩, by rw [HIC.out]; exact hlen, HF2⟩, by simp [intOf]; omega⟩
      · have HIC : Hid (chK n t es (k + 1) = chK n t es k ++ [x]) := Lib.hid (by rw [chK_hit (by rw [← HXX.out]; exact hal), ← HXX.out])
        clear hal
        by_cases hst : most ≤ ((chK n t es k).length : Int)
        · have HL : Hid (allL n t es most = chK n t es k ∧ allB n t es most = false) := Lib.hid (by
            have := all_stopL (most := most) hn (pre := chK n t es (k + 1)) (by unfold chs; rw [← HN.out]; exact chK_pre n t es (k + 1) N hlt) (by rw [HIC.out]; simp; omega)
            rwa [HIC.out, List.dropLast_concat] at this)
          go_wp2_with fail
          go_ret2
          rw [HL.out.1, HL.out.2]
          exact ⟨_, rfl, own_base HO2.out (by rw [HS0.out]; omega), HUP.out f2 HF2.out⟩
        · go_wp2_with (at_builtin; go_must (refine wpList_append_own _ rfl _ _ 51 rfl w0.heap.size 22 i0 (.int .u64 0) 1 8 Try.underlying51 HI.out HZ0.out HZ1.out HZ2.out rfl (by decide) (.slice A1 (chK n t es k).length c1) _ _ rfl (HO2.out.alloc _) ⟨f2.heap.size, 0, none⟩ 1 1 [.int .u64 (x : Nat)] rfl rfl (cell_one_new _ _ _) (by simp [Value.oneCell']) (by unfold maxLen; omega) (by omega) (by have := HF2.out.size; simp; omega) ?_; intro v2 w2 hown2 hgrow2 _))
          have hB2 := (HF2.out.alloc HF2.out.size (.cells #[.int .u64 (x : Nat)] 22)).grown hgrow2 (HF2.out.alloc HF2.out.size (.cells #[.int .u64 (x : Nat)] 22)).size (fun g hg => (HO2.out.lt g hg).1)
          rw [uz_snoc] at hown2
          obtain ⟨A2, c2, rfl, _⟩ := own_slice hown2
          exact ⟨⟨k + 1, by omega, by go_num, ⟨A2, c2, by rw [HIC.out]; simp, Lib.hid (by rw [HIC.out]; simpa using hown2)⟩, by rw [HIC.out]; simp; omega, Lib.hid hB2⟩, by simp [intOf]; omega⟩
    · obtain rfl : k = N := by omega
      have HL : Hid (allL n t es most = chK n t es k ∧ allB n t es most = true) := Lib.hid (by
        unfold allL allB chs
        rw [if_neg (by omega), if_neg (by omega), ← HN.out, List.take_of_length_le hlen, decide_eq_true hlen]
        exact ⟨rfl, rfl⟩)
      go_wp2_with (go_at_call 22; refine (rcount_any n t _).mono ?_; rintro e w' ⟨rfl, rfl⟩; rw [← HN.out])
      go_ret2
      rw [HL.out.1, HL.out.2]
      exact ⟨_, rfl, own_base HO.out (by rw [HS0.out]; omega), HUP.out wr HB.out⟩
set_option maxHeartbeats 1000000 in
theorem rall_many (S : Value) (A : Option Addr) (n c : Nat) (t : Bool) (es : List Int) (most : Int) (w : World) (hn : 8 < n) :
    Calls Try.prog 38 #[.agg #[S, .slice A n c], .bool t, .int .i64 most] w (GotAll w (allL n t es most) (allB n t es most)) := by
  have hl : allL n t es most = [] := by unfold allL; rw [if_pos hn]
  have hb : allB n t es most = false := by unfold allB; rw [if_pos hn]
  rw [hl, hb]
  clear hl hb
  have hd8 : decide ((8 : Int) < n) = true := by simp; omega
  go_enter Try.func38, Try.ntmps38
  go_wp2
  go_ret2
  exact ⟨_, rfl, World.ownsRow_nil _ _ _ _, (Below.refl _ w).alloc (Nat.le_refl _) _⟩
theorem rall_any (S : Value) (A : Option Addr) (c : Nat) (ws : List Wr) (t : Bool) (most : Int) (w : World) (hr : Reads w w.heap.size 36 A ws.length (ws.flatMap cellsW)) :
    Calls Try.prog 38 #[.agg #[S, .slice A ws.length c], .bool t, .int .i64 most] w (GotAll w (allL ws.length t (eps ws) most) (allB ws.length t (eps ws) most)) := by
  rcases Nat.lt_or_ge 8 ws.length with h | h
  · exact rall_many S A ws.length c t (eps ws) most w h
  · exact rall_few S A c ws t most w h hr
end Go.Proofs.Ytikhhipgamllgaa
