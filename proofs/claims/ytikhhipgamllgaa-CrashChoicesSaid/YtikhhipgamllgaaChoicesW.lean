/- The walk of CrashChoices. Conditions: the two slices read; the choice within its kind. -/
import Derived.Test.YtikhhipgamllgaaKnows6
import Derived.Test.YtikhhipgamllgaaImgR
namespace Go.Proofs.Ytikhhipgamllgaa
open Go.RowKit
theorem img_out {w w' : World} {ok : Bool} {l : List Sec} {o : Ending} (h : GotImg w ok l o w') : ∃ (L : List Sec) (A : Option Addr) (c : Nat), L = (if ok = true then l else []) ∧ o = .returned (.tuple #[.slice A L.length c, .bool ok]) ∧ Reads w' w'.heap.size 32 A L.length (L.flatMap cellsS) ∧ Below w.heap.size w w' := by
  obtain ⟨hb, h2⟩ := h
  cases ok
  · rw [if_neg Bool.false_ne_true] at h2
    exact ⟨[], none, 0, rfl, h2, Reads.none_, hb⟩
  · rw [if_pos rfl] at h2
    obtain ⟨v, rfl, hown⟩ := h2
    obtain ⟨A, c, rfl, hr⟩ := own_slice hown
    exact ⟨l, A, c, rfl, rfl, hr, hb⟩
theorem neq_bool (w : World) (b : Bool) : (binOp .neq 4 (.bool b) (.bool b)).run Try.prog w = .ok (.bool false) w := by
  cases b <;> kernel_rfl
set_option maxRecDepth 100000 in
set_option maxHeartbeats 2000000 in
theorem choices_long (A1 A2 : Option Addr) (n1 n2 c1 c2 : Nat) (k most : Int) (t : Bool) (w : World) (h : 105 < n1 ∨ 100 < n2) :
    Calls Try.prog 7 #[.agg #[.slice A1 n1 c1, .slice A2 n2 c2], .int .u64 k, .bool t, .int .i64 most] w fun o w' => o = .returned (.bool true) ∧ Below w.heap.size w w' := by
  by_cases h1 : 105 < n1
  · clear h
    go_enter Try.func7, Try.ntmps7
    go_wp2_with (go_at_call 31; refine (knows6_any _).mono ?_; rintro o w1 ⟨rfl, hb1⟩)
    go_ret
    exact ⟨rfl, below_box' hb1⟩
  · have h2 : 100 < n2 := by omega
    clear h
    go_enter Try.func7, Try.ntmps7
    go_wp2_with (go_at_call 31; refine (knows6_any _).mono ?_; rintro o w1 ⟨rfl, hb1⟩)
    go_ret
    exact ⟨rfl, below_box' hb1⟩
set_option maxRecDepth 100000 in
set_option maxHeartbeats 4000000 in
theorem choices_short (A1 A2 : Option Addr) (c1 c2 : Nat) (l : List Sec) (ws : List Wr) (c : Nat) (most : Int) (t : Bool) (w : World) (hl : l.length ≤ 105) (hn : ws.length ≤ 100) (hc : c < 18446744073709551616)
    (hr1 : Reads w w.heap.size 32 A1 l.length (l.flatMap cellsS)) (hr2 : Reads w w.heap.size 36 A2 ws.length (ws.flatMap cellsW)) :
    Calls Try.prog 7 #[.agg #[.slice A1 l.length c1, .slice A2 ws.length c2], .int .u64 c, .bool t, .int .i64 most] w fun o w' => o = .returned (.bool true) ∧ Below w.heap.size w w' := by
  have CI := fun (W : World) (hb : Below w.heap.size w W) => image_any c A1 A2 c1 c2 l ws W hc (by omega) (by omega) ((hr1.below hb).more hb.size) ((hr2.below hb).more hb.size)
  have CR := fun (W : World) (hb : Below w.heap.size w W) => rimage_any c A1 A2 c1 c2 l ws W hc (by omega) (by omega) ((hr1.below hb).more hb.size) ((hr2.below hb).more hb.size)
  have CA := fun (W : World) (hb : Below w.heap.size w W) => callow_any c (.slice A1 l.length c1) A2 c2 ws W hc (by omega) ((hr2.below hb).more hb.size)
  have CB := fun (W : World) (hb : Below w.heap.size w W) => crallow_any c (.slice A1 l.length c1) A2 c2 ws W hc (by omega) ((hr2.below hb).more hb.size)
  have CL := fun (W : World) (hb : Below w.heap.size w W) => all_any (.slice A1 l.length c1) A2 c2 ws t most W ((hr2.below hb).more hb.size)
  have CM := fun (W : World) (hb : Below w.heap.size w W) => rall_any (.slice A1 l.length c1) A2 c2 ws t most W ((hr2.below hb).more hb.size)
  have CN := fun (W : World) (hb : Below w.heap.size w W) => ccount_any (.slice A1 l.length c1) A2 c2 ws t most W ((hr2.below hb).more hb.size)
  obtain ⟨n1, hn1⟩ : ∃ n, n = l.length := ⟨_, rfl⟩
  obtain ⟨n2, hn2⟩ : ∃ n, n = ws.length := ⟨_, rfl⟩
  obtain ⟨ok, hok⟩ : ∃ b, b = imgOk c l.length ws := ⟨_, rfl⟩
  obtain ⟨im, him⟩ : ∃ x, x = imgTo c l ws ws.length := ⟨_, rfl⟩
  have himl : im.length ≤ 105 := by rw [him, imgTo_len]; exact hl
  obtain ⟨al, hal⟩ : ∃ x, x = allowB c (eps ws) := ⟨_, rfl⟩
  obtain ⟨L, hL⟩ : ∃ x, x = allL ws.length t (eps ws) most := ⟨_, rfl⟩
  have hLL : L.length ≤ 6561 := by
    rw [hL]
    unfold allL chs
    split
    · exact Nat.zero_le _
    · refine Nat.le_trans (List.length_take_le' _ _) (Nat.le_trans (chK_len _ _ _ _) (cnt_le _ _ (by omega)))
  have HLL := Lib.hid hLL
  clear hLL
  obtain ⟨B, hB⟩ : ∃ x, x = allB ws.length t (eps ws) most := ⟨_, rfl⟩
  rw [← hok, ← him, ← hn1, ← hn2] at CI CR
  rw [← hal, ← hn1, ← hn2] at CA CB
  rw [← hL, ← hB, ← hn1, ← hn2] at CL CM CN
  rw [← hn1, ← hn2]
  rw [← hn1] at hl
  rw [← hn2] at hn
  have HCI := Lib.hid CI
  have HCR := Lib.hid CR
  have HCA := Lib.hid CA
  have HCB := Lib.hid CB
  have HCL := Lib.hid CL
  have HCM := Lib.hid CM
  have HCN := Lib.hid CN
  clear CI CR CA CB CL CM CN hn1 hn2 hok him hal hL hB hr1 hr2 hc
  have hd1 : decide ((105 : Int) < n1) = false := by simp; omega
  have hd2 : decide ((100 : Int) < n2) = false := by simp; omega
  go_enter Try.func7, Try.ntmps7
  go_wp2_with fail
  refine (knows6_any _).mono ?_
  rintro o w1 ⟨rfl, hb1⟩
  have hx : Blk w1 w.heap.size 43 #[.slice A1 n1 c1, .slice A2 n2 c2] := (Blk.new w 43 _).below hb1 (by simp)
  have hb1' := below_box' hb1
  have k0 : w1.cell? ⟨w.heap.size, 0, none⟩ = some (.slice A1 n1 c1) := hx.cell 0
  have k1 : w1.cell? ⟨w.heap.size, 1, none⟩ = some (.slice A2 n2 c2) := hx.cell 1
  have HX := Lib.hid hx
  have HB1 := Lib.hid hb1'
  clear hb1 hb1' hx
  go_wp2_with fail
  obtain ⟨wB, hwB⟩ : ∃ wB, w1.alloc (.cells #[.slice A1 n1 c1, .slice A2 n2 c2] 44) = wB := ⟨_, rfl⟩
  have HBB : Hid (Below w.heap.size w wB) := by rw [← hwB]; exact Lib.hid (HB1.out.alloc HB1.out.size _)
  have HXB : Hid (Blk wB w.heap.size 43 #[.slice A1 n1 c1, .slice A2 n2 c2]) := by rw [← hwB]; exact Lib.hid (HX.out.alloc _)
  have HYB : Hid (Blk wB w1.heap.size 44 #[.slice A1 n1 c1, .slice A2 n2 c2]) := by rw [← hwB]; exact Lib.hid (Blk.new w1 44 _)
  have HUP : Hid (∀ W, Below wB.heap.size wB W → Below w.heap.size w W) := Lib.hid (fun W hW => HBB.out.trans (hW.mono HBB.out.size))
  have HCX : Hid (∀ (W : World) (j : Nat), Below wB.heap.size wB W → W.cell? ⟨w.heap.size, j, none⟩ = (#[Value.slice A1 n1 c1, .slice A2 n2 c2] : Array Value)[j]?) := Lib.hid (fun W j hb => (hb.cell (p := ⟨w.heap.size, j, none⟩) HXB.out.lt).trans (HXB.out.cell j))
  have HCY : Hid (∀ (W : World) (j : Nat), Below wB.heap.size wB W → W.cell? ⟨w1.heap.size, j, none⟩ = (#[Value.slice A1 n1 c1, .slice A2 n2 c2] : Array Value)[j]?) := Lib.hid (fun W j hb => (hb.cell (p := ⟨w1.heap.size, j, none⟩) HYB.out.lt).trans (HYB.out.cell j))
  rw [hwB]
  clear hwB k0 k1
  obtain ⟨Lx, hLx⟩ : ∃ Lx, Lx = (if ok = true then im else []) := ⟨_, rfl⟩
  have hlx : Lx.length ≤ 1000 := by
    rw [hLx]
    by_cases hk : ok = true
    · rw [if_pos hk]; omega
    · rw [if_neg hk]; exact Nat.zero_le _
  have HLX := Lib.hid hLx
  clear hLx
  refine (HCI.out wB HBB.out).mono ?_
  rintro o w2 hgot
  obtain ⟨Lx', Ax, cx, hlx', rfl, hrx, hb2⟩ := img_out hgot
  rw [← HLX.out] at hlx'
  subst hlx'
  have k0 : w2.cell? ⟨w.heap.size, 0, none⟩ = some (.slice A1 n1 c1) := HCX.out w2 0 hb2
  have k1 : w2.cell? ⟨w.heap.size, 1, none⟩ = some (.slice A2 n2 c2) := HCX.out w2 1 hb2
  have HB2 := Lib.hid hb2
  have HRX := Lib.hid hrx
  clear hgot hrx hb2
  go_wp2_with fail
  refine (HCR.out w2 (HUP.out w2 HB2.out)).mono ?_
  rintro o w3 hgot
  obtain ⟨Lx', Ay, cy, hlx', rfl, hry, hb3⟩ := img_out hgot
  rw [← HLX.out] at hlx'
  subst hlx'
  have HB3 := Lib.hid (HB2.out.trans (hb3.mono HB2.out.size))
  have HRX3 := Lib.hid ((HRX.out.below hb3).more hb3.size)
  have HRY := Lib.hid hry
  clear hgot hry hb3 k0 k1
  obtain ⟨nx, hnx⟩ : ∃ nx, nx = Lx'.length := ⟨_, rfl⟩
  rw [← hnx]
  have HNX := Lib.hid hnx
  clear hnx
  have HSM : Hid (∀ W, Below w3.heap.size w3 W → Calls Try.prog 34 #[.slice Ax nx cx, .slice Ay nx cy] W fun e w' => e = .returned (.bool true) ∧ Below w3.heap.size w3 w') := Lib.hid (fun W hW => by
    have h := same_any Ax Ay cx cy Lx' W hlx ((HRX3.out.below hW).more hW.size) ((HRY.out.below hW).more hW.size)
    rw [← HNX.out] at h
    refine h.mono ?_
    rintro e w' ⟨rfl, m, rfl⟩
    exact ⟨rfl, below_drewN hW⟩)
  go_wp2_with fail
  refine wp_region_quiet_all (fun W => Below w3.heap.size w3 W) (by kernel_rfl) (by kernel_rfl) ((Below.refl _ w3).drew) ?_
  go_big_quiet_want; go_big_quiet_op; go_big_quiet_on
  go_big_quiet_want; go_big_quiet_op; go_big_quiet_on
  go_big_quiet_want; refine quiet_bin .neq 4 4 (.tmp 51) (.tmp 52) rfl (.bool ok) (.bool ok) (.bool false) rfl rfl (fun W _ => rfl) (fun W _ => neq_bool W ok) ?_; go_frame; go_big_quiet_on
  go_big_quiet_want; go_big_quiet_op; go_big_quiet_on
  go_big_quiet_want; go_big_quiet_op; go_big_quiet_on
  go_big_quiet_want; go_big_quiet_op; go_big_quiet_on
  go_big_quiet_want; refine quiet_call 34 #[.slice Ax nx cx, .slice Ay nx cy] (.bool true) (fun W _ => by go_simp) (fun W hW => (HSM.out W hW)) ?_; go_frame; go_big_quiet_on
  go_big_quiet_want; refine quiet_value (.bool false) (fun W _ => by go_simp) ?_; go_frame; go_big_quiet_on
  go_big_quiet_want; refine quiet_value (.bool false) (fun W _ => by go_simp) ?_; go_frame; go_big_quiet_on
  go_big_quiet_want; go_big_quiet_op; go_big_quiet_on
  go_big_quiet_want; refine quiet_load_mid 44 (.tmp 10) rfl w1.heap.size 0 rfl [.slice A1 n1 c1, .slice A2 n2 c2] _ (fun W hW j v hj => by rw [Nat.zero_add, HCY.out W j (HB3.out.trans (hW.mono HB3.out.size))]; simpa using hj) Try.underlying44 rfl (by kernel_rfl) ?_; go_frame; go_big_quiet_on
  go_big_quiet_want; go_big_quiet_op; go_big_quiet_on
  go_big_quiet_want; refine quiet_call 35 #[.agg #[.slice A1 n1 c1, .slice A2 n2 c2], .int .u64 (c : Nat)] (.bool al) (fun W _ => by go_simp) (fun W hW => (HCA.out W (HUP.out W (HB3.out.trans (hW.mono HB3.out.size)))).mono fun e w' h => ⟨h.1, hW.trans (h.2.mono hW.size)⟩) ?_; go_frame; go_big_quiet_on
  go_big_quiet_want; refine quiet_load_mid 43 (.tmp 4) rfl w.heap.size 0 rfl [.slice A1 n1 c1, .slice A2 n2 c2] _ (fun W hW j v hj => by rw [Nat.zero_add, HCX.out W j (HB3.out.trans (hW.mono HB3.out.size))]; simpa using hj) Try.underlying43 rfl (by kernel_rfl) ?_; go_frame; go_big_quiet_on
  go_big_quiet_want; go_big_quiet_op; go_big_quiet_on
  go_big_quiet_want; refine quiet_call 36 #[.agg #[.slice A1 n1 c1, .slice A2 n2 c2], .int .u64 (c : Nat)] (.bool al) (fun W _ => by go_simp) (fun W hW => (HCB.out W (HUP.out W (HB3.out.trans (hW.mono HB3.out.size)))).mono fun e w' h => ⟨h.1, hW.trans (h.2.mono hW.size)⟩) ?_; go_frame; go_big_quiet_on
  go_big_quiet_want; refine quiet_bin .neq 4 4 (.tmp 63) (.tmp 66) rfl (.bool al) (.bool al) (.bool false) rfl rfl (fun W _ => rfl) (fun W _ => neq_bool W al) ?_; go_frame; go_big_quiet_on
  go_big_quiet_want; refine quiet_value (.bool false) (fun W _ => by go_simp) ?_; go_frame; go_big_quiet_on
  refine wpQuiet_nil ?_
  intro w4 hb4
  have HB4 := Lib.hid (HB3.out.trans (hb4.mono HB3.out.size))
  have k0 : w4.cell? ⟨w1.heap.size, 0, none⟩ = some (.slice A1 n1 c1) := HCY.out w4 0 HB4.out
  have k1 : w4.cell? ⟨w1.heap.size, 1, none⟩ = some (.slice A2 n2 c2) := HCY.out w4 1 HB4.out
  clear hb4
  go_wp2_with fail
  refine (HCL.out w4 (HUP.out w4 HB4.out)).mono ?_
  rintro o w5 ⟨va, rfl, hoa, hb5⟩
  obtain ⟨Aa, ca, rfl, _⟩ := own_slice hoa
  have HB5 := Lib.hid (HB4.out.trans (hb5.mono HB4.out.size))
  have HOA := Lib.hid hoa
  clear k0 k1 hoa hb5
  have k0 : w5.cell? ⟨w.heap.size, 0, none⟩ = some (.slice A1 n1 c1) := HCX.out w5 0 HB5.out
  have k1 : w5.cell? ⟨w.heap.size, 1, none⟩ = some (.slice A2 n2 c2) := HCX.out w5 1 HB5.out
  obtain ⟨nl, hnl⟩ : ∃ nl, nl = L.length := ⟨_, rfl⟩
  have HNL := Lib.hid hnl
  rw [← hnl] at HOA ⊢
  clear hnl
  go_wp2_with fail
  refine (HCM.out w5 (HUP.out w5 HB5.out)).mono ?_
  rintro o w6 ⟨vb, rfl, hob, hb6⟩
  rw [← HNL.out] at hob
  obtain ⟨Ab, cb, rfl, _⟩ := own_slice hob
  have HB6 := Lib.hid (HB5.out.trans (hb6.mono HB5.out.size))
  have HOA6 := Lib.hid (own_below HOA.out hb6)
  have HOB := Lib.hid hob
  clear k0 k1 hob hb6
  have k0 : w6.cell? ⟨w1.heap.size, 0, none⟩ = some (.slice A1 n1 c1) := HCY.out w6 0 HB6.out
  have k1 : w6.cell? ⟨w1.heap.size, 1, none⟩ = some (.slice A2 n2 c2) := HCY.out w6 1 HB6.out
  go_wp2_with fail
  refine (HCN.out w6 (HUP.out w6 HB6.out)).mono ?_
  rintro o w7 ⟨rfl, hb7⟩
  rw [← HNL.out]
  have HB7 := Lib.hid (HB6.out.trans (hb7.mono HB6.out.size))
  have HOA7 := Lib.hid (own_below HOA6.out hb7)
  have HOB7 := Lib.hid (own_below HOB.out hb7)
  clear k0 k1 hb7
  have hnl6 : nl ≤ 6561 := by rw [HNL.out]; exact HLL.out
  go_wp2_with fail
  go_loopw [21] (fun i wr => ∃ k : Nat, k ≤ nl ∧ i = .int .i64 k ∧ ∃ m, wr = w7.drewN m) (fun i _ => nl - (intOf i).toNat)
  case atStart => exact ⟨0, by omega, rfl, 0, rfl⟩
  case round =>
    obtain ⟨k, hk, rfl, m, rfl⟩ := hrel
    by_cases hlt : k < nl
    · obtain ⟨ga, rfl, _⟩ := own_at HOA7.out (by omega)
      obtain ⟨gb, rfl, _⟩ := own_at HOB7.out (by omega)
      obtain ⟨x, hx⟩ : ∃ x, L[k]? = some x := ⟨_, List.getElem?_eq_getElem (by rw [← HNL.out]; exact hlt)⟩
      have hu : (uz L)[k]? = some (.int .u64 (x : Nat)) := by simp [uz, hx]
      have hca : w7.cell? ⟨ga, k, none⟩ = some (.int .u64 (x : Nat)) := (HOA7.out.cellAt k (by omega)).trans hu
      have hcb : w7.cell? ⟨gb, k, none⟩ = some (.int .u64 (x : Nat)) := (HOB7.out.cellAt k (by omega)).trans hu
      clear hx hu
      go_wp2
      go_quiet (fail)
      go_wp2
      exact ⟨⟨k + 1, by omega, by go_num, m + nq, rfl⟩, by simp [intOf]; omega⟩
    · obtain rfl : k = nl := by omega
      go_wp2
      go_ret
      exact ⟨rfl, HUP.out _ (below_drewN HB7.out)⟩
end Go.Proofs.Ytikhhipgamllgaa
