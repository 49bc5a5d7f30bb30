/- synced: what had one of the tags is safe, or a later one of its sector. Conditions: few writes, few tags. -/
import Derived.Test.YtikhhipgamllgaaKnows5
namespace Go.Proofs.Ytikhhipgamllgaa
open Go.RowKit
theorem cell_drewN {w : World} {n : Nat} {p : Addr} {v : Value} (h : w.cell? p = some v) : (w.drewN n).cell? p = some v := h
theorem eqlI (W : World) (x y : Int) : (binOp .eql 3 (.int .i64 x) (.int .i64 y)).run Try.prog W = .ok (.bool (decide (x = y))) W := by
  go_simp
  by_cases h : x = y <;> simp [h]
section
variable {w : World} {F : Nat → Prop} {g : Nat} {D : Dk} {bv sv wv lv : Value}
def hasTag (ts : List Tg) (x : Wr) : Bool := ts.any (fun t => decide (t = x.tg))
theorem hasTag_step {ts : List Tg} {k : Nat} {t : Tg} (x : Wr) (h : ts[k]? = some t) : hasTag (ts.take (k + 1)) x = (hasTag (ts.take k) x || decide (t = x.tg)) := by
  unfold hasTag
  rw [List.take_add_one, h]
  simp
set_option maxRecDepth 100000 in
set_option maxHeartbeats 4000000 in
theorem synced_any (h : DiskV w F g D bv sv wv lv) (hs : 0 < D.safe.length) (hsl : D.safe.length ≤ 1000) (A B : Option Addr) (c c' : Nat) (ws : List Wr) (ts : List Tg) (hws : ws.length ≤ 1000) (hts : ts.length ≤ 1000)
    (hr1 : Reads w w.heap.size 36 A ws.length (ws.flatMap cellsW)) (hr2 : Reads w w.heap.size 2 B ts.length (ts.flatMap cellsT)) (hat : ∀ x ∈ ws, atIn x.at_ D.safe.length = true)
    (hgood : ∀ (i : Nat) (x : Wr), ws[i]? = some x → x.tg ∈ ts → ∃ (m : Nat) (y : Wr), i ≤ m ∧ ws[m]? = some y ∧ y.at_ = x.at_ ∧ D.safe[x.at_.toNat]? = some y.s) :
    Calls Try.prog 49 #[.pointer (some ⟨g, 0, none⟩), .slice A ws.length c, .slice B ts.length c'] w fun o w' => o = .returned (.bool true) ∧ Below w.heap.size w w' := by
  have HSF := Lib.hid (safe_any h hs hsl)
  have HR1 := Lib.hid hr1
  have HR2 := Lib.hid hr2
  have HAT := Lib.hid hat
  have HGD := Lib.hid hgood
  obtain ⟨l, hl⟩ : ∃ l, l = D.safe := ⟨_, rfl⟩
  rw [← hl] at HSF HAT HGD
  have HLP : Hid (0 < l.length) := Lib.hid (by rw [hl]; exact hs)
  obtain ⟨n, hn⟩ : ∃ n, n = ws.length := ⟨_, rfl⟩
  obtain ⟨p, hp⟩ : ∃ p, p = ts.length := ⟨_, rfl⟩
  obtain ⟨q, hq⟩ : ∃ q, q = l.length := ⟨_, rfl⟩
  have HN := Lib.hid hn
  have HP := Lib.hid hp
  have HQ := Lib.hid hq
  rw [← hn] at hws ⊢
  rw [← hp] at hts ⊢
  rw [← hq] at HSF
  clear h hs hsl hr1 hr2 hat hgood hl hn hp hq
  go_enter Try.func49, Try.ntmps49
  go_wp2_with fail
  refine HSF.out.mono ?_
  rintro o w1 ⟨v1, rfl, ho1, hb1⟩
  obtain ⟨bs, cs, rfl⟩ : ∃ bs cs, v1 = .slice (some ⟨bs, 0, none⟩) q cs := by
    rcases ho1.2 with ⟨_, h0⟩ | ⟨b, c, cur, rfl, _⟩
    · have := HLP.out; have := HQ.out; omega
    · exact ⟨b, c, rfl⟩
  have HO := Lib.hid ho1
  have HB := Lib.hid hb1
  have HR1 := Lib.hid (HR1.out.below hb1)
  have HR2 := Lib.hid (HR2.out.below hb1)
  clear ho1 hb1
  go_wp2_with fail
  go_loopw [8] (fun i wr => ∃ k m : Nat, k ≤ n ∧ i = .int .i64 k ∧ wr = w1.drewN m) (fun i _ => n - (intOf i).toNat)
  case atStart => exact ⟨0, 0, by omega, rfl, rfl⟩
  case round =>
    obtain ⟨i, m, hi, rfl, rfl⟩ := hrel
    by_cases hlt : i < n
    · obtain ⟨x, hx⟩ : ∃ x, ws[i]? = some x := ⟨_, List.getElem?_eq_getElem (by rw [← HN.out]; exact hlt)⟩
      obtain ⟨bw, ow, rfl, hbw, hitw⟩ := HR1.out.item (f := cellsW) cellsW_len (by omega) (k := i) (by rw [← HN.out]; exact hlt)
      have HX := Lib.hid hx
      have HW := Lib.hid hitw
      have hl1 : (i : Int) < (n : Int) := by omega
      clear hx hbw hitw
      go_wp2_with fail
      have HWT : Hid (w1.rangeAt bw (ow + i * 36 + 33) (cellsT x.tg)) := Lib.hid (rangeAt_part (HW.out i x HX.out) 33 _ (fun j v hj => by have := cellsW_tg x j v hj; simpa using this))
      go_loopw [9, 11] (fun ov kv wr => ∃ k m' : Nat, k ≤ p ∧ kv = .int .i64 k ∧ ov = .bool (hasTag (ts.take k) x) ∧ wr = w1.drewN m') (fun _ kv _ => p - (intOf kv).toNat)
      case atStart => exact ⟨0, m, by omega, rfl, rfl, rfl⟩
      case round =>
        obtain ⟨k, m', hk, rfl, rfl, rfl⟩ := hrel
        by_cases hlt2 : k < p
        · obtain ⟨t, ht⟩ : ∃ t, ts[k]? = some t := ⟨_, List.getElem?_eq_getElem (by rw [← HP.out]; exact hlt2)⟩
          obtain ⟨bt, ot, rfl, _, hitt⟩ := HR2.out.item (f := cellsT) cellsT_len (by omega) (k := k) (by rw [← HP.out]; exact hlt2)
          have HT := Lib.hid (hitt k t ht)
          obtain ⟨b, hb⟩ : ∃ b, decide (t = x.tg) = b := ⟨_, rfl⟩
          obtain ⟨o0, ho0⟩ : ∃ o, hasTag (ts.take k) x = o := ⟨_, rfl⟩
          have HST : Hid (hasTag (ts.take (k + 1)) x = (o0 || b)) := Lib.hid (by rw [hasTag_step x ht, ho0, hb])
          have HEQ : Hid (∀ W, (binOp .eql 69 (.agg (cellsT t).toArray) (.agg (cellsT x.tg).toArray)).run Try.prog W = .ok (.bool b) W) := Lib.hid fun W => by rw [eqlT, hb]
          rw [ho0]
          have hl2 : (k : Int) < (p : Int) := by omega
          clear hitt hb ho0 ht
          cases o0 with
          | true =>
            go_wp2_with fail
            refine wp_region_quiet_lit (by kernel_rfl) (by kernel_rfl) ?_
            repeat (first | go_big_quiet_skip | (go_big_quiet_want; go_big_quiet_op; go_big_quiet_on))
            refine wpQuiet_nil ?_
            rintro _ ⟨nq, rfl⟩
            go_wp2_with fail
            exact ⟨⟨k + 1, m' + nq, by omega, by go_num, by rw [HST.out]; rfl, rfl⟩, by simp [intOf]; omega⟩
          | false =>
            go_wp2_with fail
            refine wp_region_quiet_lit (by kernel_rfl) (by kernel_rfl) ?_
            repeat (first | go_big_quiet_skip | (go_big_quiet_want; first
              | (with_reducible show Oper.quiet _ (Oper.mk (some 31) _ _ _ _ _) _ _ _; refine quiet_value (.pointer (some ⟨bt, ot + k * 2, none⟩)) (fun W _ => by go_simp) ?_; go_frame; go_big_quiet_on)
              | (with_reducible show Oper.quiet _ (Oper.mk (some 35) _ _ _ _ _) _ _ _; refine quiet_value (.pointer (some ⟨bw, ow + i * 36, none⟩)) (fun W _ => by go_simp) ?_; go_frame; go_big_quiet_on)
              | (with_reducible show Oper.quiet _ (Oper.mk (some 36) _ _ _ _ _) _ _ _; refine quiet_value (.pointer (some ⟨bw, ow + i * 36 + 33, none⟩)) (fun W _ => by go_simp) ?_; go_frame; go_big_quiet_on)
              | (with_reducible show Oper.quiet _ (Oper.mk (some 32) _ _ _ _ _) _ _ _; refine quiet_load_mid 69 (.tmp 31) rfl bt (ot + k * 2) rfl (cellsT t) _ (fun W hW => hW.elim fun j hj => by subst hj; exact range_drewN (range_drewN HT.out)) Try.underlying69 rfl (by rw [cellsT_len]; exact info69) ?_; go_frame; go_big_quiet_on)
              | (with_reducible show Oper.quiet _ (Oper.mk (some 37) _ _ _ _ _) _ _ _; refine quiet_load_mid 69 (.tmp 36) rfl bw (ow + i * 36 + 33) rfl (cellsT x.tg) _ (fun W hW => hW.elim fun j hj => by subst hj; exact range_drewN (range_drewN HWT.out)) Try.underlying69 rfl (by rw [cellsT_len]; exact info69) ?_; go_frame; go_big_quiet_on)
              | (with_reducible show Oper.quiet _ (Oper.mk (some 38) _ _ _ _ _) _ _ _; refine quiet_bin .eql 69 69 _ _ rfl (.agg (cellsT t).toArray) (.agg (cellsT x.tg).toArray) (.bool b) rfl rfl (fun W _ => guardT W _ _ _ _ _) (fun W _ => HEQ.out W) ?_; go_frame; go_big_quiet_on)
              | (with_reducible show Oper.quiet _ (Oper.mk _ (Op.pick _ _ _) _ _ _ _) _ _ _; refine quiet_value (.bool b) (fun W _ => Ph.run_pick_f rfl rfl rfl) ?_; go_frame; go_big_quiet_on)
              | (go_big_quiet_op; go_big_quiet_on)))
            refine wpQuiet_nil ?_
            rintro _ ⟨nq, rfl⟩
            go_wp2_with fail
            exact ⟨⟨k + 1, m' + nq, by omega, by go_num, by rw [HST.out]; rfl, rfl⟩, by simp [intOf]; omega⟩
        · obtain rfl : k = p := by omega
          have htk : ts.take k = ts := List.take_of_length_le (by rw [HP.out]; exact Nat.le_refl _)
          rw [htk]
          obtain ⟨o1, ho1⟩ : ∃ o, hasTag ts x = o := ⟨_, rfl⟩
          rw [ho1]
          have HO1 := Lib.hid ho1
          clear htk ho1
          cases o1 with
          | false =>
            go_wp2_with fail
            go_loopw [10, 12] (fun ov kv wr => ∃ m' : Nat, ov = .bool false ∧ kv = .int .i64 i ∧ wr = w1.drewN m') (fun _ _ _ => 0)
            case atStart => exact ⟨m', rfl, rfl, rfl⟩
            case round =>
              obtain ⟨m2, rfl, rfl, rfl⟩ := hrel
              go_wp2_with fail
              exact ⟨⟨i + 1, m2, by omega, by go_num, rfl⟩, by simp [intOf]; omega⟩
          | true =>
            have hmem : x.tg ∈ ts := by
              have := HO1.out
              unfold hasTag at this
              obtain ⟨t, ht, he⟩ := List.any_eq_true.1 this
              rw [← of_decide_eq_true he]; exact ht
            obtain ⟨M, y, hiM, hyM, hya, hys⟩ := HGD.out i x HX.out hmem
            have hin := HAT.out x (List.mem_of_getElem? HX.out)
            have hin2 : 0 ≤ x.at_ ∧ x.at_ < l.length := by simpa [atIn] using hin
            obtain ⟨a0, ha0⟩ : ∃ a0 : Nat, x.at_ = a0 := ⟨x.at_.toNat, by omega⟩
            rw [ha0] at hys hya
            have haq : (a0 : Int) < (q : Int) := by have := HQ.out; omega
            have hcx : w1.cell? ⟨bw, ow + i * 36, none⟩ = some (.int .i64 (a0 : Nat)) := by
              have := HW.out i x HX.out 0 _ (cellsW_at x)
              rw [ha0] at this
              exact this
            obtain ⟨bs', cs', hv, hrs⟩ := row_item cellsS_len (k := a0) (x := y.s) HO.out hys HQ.out.symm
            obtain ⟨rfl, rfl⟩ : bs = bs' ∧ cs = cs' := by simpa using hv
            have HMI := Lib.hid hiM
            have HYM := Lib.hid hyM
            have HYA := Lib.hid hya
            have HXA := Lib.hid ha0
            have HCX := Lib.hid hcx
            have HRS := Lib.hid hrs
            have HMN : Hid (M < n) := Lib.hid (by rw [HN.out]; exact (List.getElem?_eq_some_iff.1 hyM).1)
            clear hmem hiM hyM hya hys hin hin2 ha0 hcx hv hrs
            go_wp2_with fail
            go_loopw [10, 12] (fun ov kv wr => ∃ (k m' : Nat) (ok : Bool), i ≤ k ∧ k ≤ n ∧ ov = .bool ok ∧ kv = .int .i64 k ∧ Hid (M < k → ok = true) ∧ wr = w1.drewN m') (fun _ kv _ => n - (intOf kv).toNat)
            case atStart => exact ⟨i, m', false, by omega, by omega, rfl, rfl, Lib.hid (fun h => by have := HMI.out; omega), rfl⟩
            case round =>
              obtain ⟨k2, m2, ok, hik, hkn, rfl, rfl, HOK, rfl⟩ := hrel
              by_cases hlt3 : k2 < n
              · obtain ⟨z, hzz⟩ : ∃ z, ws[k2]? = some z := ⟨_, List.getElem?_eq_getElem (by rw [← HN.out]; exact hlt3)⟩
                have hrz := HW.out k2 z hzz
                have HCZ : Hid (w1.cell? ⟨bw, ow + k2 * 36, none⟩ = some (.int .i64 z.at_)) := Lib.hid (hrz 0 _ (cellsW_at z))
                have HRZ : Hid (w1.rangeAt bw (ow + k2 * 36 + 1) (cellsS z.s)) := Lib.hid (rangeAt_part hrz 1 _ (cellsW_s z))
                have hl3 : (k2 : Int) < (n : Int) := by omega
                have HZZ := Lib.hid hzz
                clear hzz hrz
                cases ok with
                | true =>
                  go_wp2_with fail
                  refine wp_region_quiet_lit (by kernel_rfl) (by kernel_rfl) ?_
                  repeat (first | go_big_quiet_skip | (go_big_quiet_want; go_big_quiet_op; go_big_quiet_on))
                  refine wpQuiet_nil ?_
                  rintro _ ⟨nq, rfl⟩
                  go_wp2_with fail
                  exact ⟨⟨k2 + 1, m2 + nq, true, by omega, by omega, rfl, by go_num, Lib.hid (fun _ => rfl), rfl⟩, by simp [intOf]; omega⟩
                | false =>
                  obtain ⟨e, hee, hes⟩ := eqlS2 y.s z.s
                  obtain ⟨a, haa⟩ : ∃ a, decide (z.at_ = (a0 : Int)) = a := ⟨_, rfl⟩
                  have HEE := Lib.hid hee
                  have HEA : Hid (∀ W, (binOp .eql 3 (.int .i64 z.at_) (.int .i64 (a0 : Nat))).run Try.prog W = .ok (.bool a) W) := Lib.hid fun W => by rw [eqlI, haa]
                  have HFIN : Hid (M < k2 + 1 → (a && e) = true) := Lib.hid (fun h => by
                    by_cases hMk : M < k2
                    · have := HOK.out hMk; cases this
                    · obtain rfl : M = k2 := by omega
                      have := HYM.out
                      rw [HZZ.out] at this
                      cases this
                      rw [hes rfl, ← haa, HYA.out]; simp)
                  clear hee hes haa
                  cases a with
                  | false =>
                    go_wp2_with fail
                    refine wp_region_quiet_lit (by kernel_rfl) (by kernel_rfl) ?_
                    repeat (first | go_big_quiet_skip | (go_big_quiet_want; first
                      | (with_reducible show Oper.quiet _ (Oper.mk (some 54) _ _ _ _ _) _ _ _; refine quiet_value (.pointer (some ⟨bw, ow + k2 * 36, none⟩)) (fun W _ => by go_simp) ?_; go_frame; go_big_quiet_on)
                      | (with_reducible show Oper.quiet _ (Oper.mk (some 55) _ _ _ _ _) _ _ _; refine quiet_value (.pointer (some ⟨bw, ow + k2 * 36, none⟩)) (fun W _ => by go_simp) ?_; go_frame; go_big_quiet_on)
                      | (with_reducible show Oper.quiet _ (Oper.mk (some 56) _ _ _ _ _) _ _ _; refine quiet_load_one 3 (.tmp 55) rfl bw (ow + k2 * 36) rfl (.int .i64 z.at_) (fun W hW => hW.elim fun j hj => by subst hj; exact ld3 (cell_drewN (cell_drewN HCZ.out))) ?_; go_frame; go_big_quiet_on)
                      | (with_reducible show Oper.quiet _ (Oper.mk (some 59) _ _ _ _ _) _ _ _; refine quiet_value (.pointer (some ⟨bw, ow + i * 36, none⟩)) (fun W _ => by go_simp) ?_; go_frame; go_big_quiet_on)
                      | (with_reducible show Oper.quiet _ (Oper.mk (some 60) _ _ _ _ _) _ _ _; refine quiet_value (.pointer (some ⟨bw, ow + i * 36, none⟩)) (fun W _ => by go_simp) ?_; go_frame; go_big_quiet_on)
                      | (with_reducible show Oper.quiet _ (Oper.mk (some 61) _ _ _ _ _) _ _ _; refine quiet_load_one 3 (.tmp 60) rfl bw (ow + i * 36) rfl (.int .i64 (a0 : Nat)) (fun W hW => hW.elim fun j hj => by subst hj; exact ld3 (cell_drewN (cell_drewN HCX.out))) ?_; go_frame; go_big_quiet_on)
                      | (with_reducible show Oper.quiet _ (Oper.mk (some 62) _ _ _ _ _) _ _ _; refine quiet_bin .eql 3 3 _ _ rfl (.int .i64 z.at_) (.int .i64 (a0 : Nat)) (.bool false) rfl rfl (fun W _ => rfl) (fun W _ => HEA.out W) ?_; go_frame; go_big_quiet_on)
                      | (with_reducible show Oper.quiet _ (Oper.mk (some 78) _ _ _ _ _) _ _ _; refine quiet_value (.bool false) (fun W _ => Ph.run_pick_f rfl rfl rfl) ?_; go_frame; go_big_quiet_on)
                      | (with_reducible show Oper.quiet _ (Oper.mk (some 79) _ _ _ _ _) _ _ _; refine quiet_value (.bool false) (fun W _ => Ph.run_pick_f rfl rfl rfl) ?_; go_frame; go_big_quiet_on)
                      | (go_big_quiet_op; go_big_quiet_on)))
                    refine wpQuiet_nil ?_
                    rintro _ ⟨nq, rfl⟩
                    go_wp2_with fail
                    exact ⟨⟨k2 + 1, m2 + nq, false, by omega, by omega, rfl, by go_num, Lib.hid (fun h => by have := HFIN.out h; simp at this), rfl⟩, by simp [intOf]; omega⟩
                  | true =>
                    go_wp2_with fail
                    refine wp_region_quiet_lit (by kernel_rfl) (by kernel_rfl) ?_
                    repeat (first | go_big_quiet_skip | (go_big_quiet_want; first
                      | (with_reducible show Oper.quiet _ (Oper.mk (some 54) _ _ _ _ _) _ _ _; refine quiet_value (.pointer (some ⟨bw, ow + k2 * 36, none⟩)) (fun W _ => by go_simp) ?_; go_frame; go_big_quiet_on)
                      | (with_reducible show Oper.quiet _ (Oper.mk (some 55) _ _ _ _ _) _ _ _; refine quiet_value (.pointer (some ⟨bw, ow + k2 * 36, none⟩)) (fun W _ => by go_simp) ?_; go_frame; go_big_quiet_on)
                      | (with_reducible show Oper.quiet _ (Oper.mk (some 56) _ _ _ _ _) _ _ _; refine quiet_load_one 3 (.tmp 55) rfl bw (ow + k2 * 36) rfl (.int .i64 z.at_) (fun W hW => hW.elim fun j hj => by subst hj; exact ld3 (cell_drewN (cell_drewN HCZ.out))) ?_; go_frame; go_big_quiet_on)
                      | (with_reducible show Oper.quiet _ (Oper.mk (some 59) _ _ _ _ _) _ _ _; refine quiet_value (.pointer (some ⟨bw, ow + i * 36, none⟩)) (fun W _ => by go_simp) ?_; go_frame; go_big_quiet_on)
                      | (with_reducible show Oper.quiet _ (Oper.mk (some 60) _ _ _ _ _) _ _ _; refine quiet_value (.pointer (some ⟨bw, ow + i * 36, none⟩)) (fun W _ => by go_simp) ?_; go_frame; go_big_quiet_on)
                      | (with_reducible show Oper.quiet _ (Oper.mk (some 61) _ _ _ _ _) _ _ _; refine quiet_load_one 3 (.tmp 60) rfl bw (ow + i * 36) rfl (.int .i64 (a0 : Nat)) (fun W hW => hW.elim fun j hj => by subst hj; exact ld3 (cell_drewN (cell_drewN HCX.out))) ?_; go_frame; go_big_quiet_on)
                      | (with_reducible show Oper.quiet _ (Oper.mk (some 62) _ _ _ _ _) _ _ _; refine quiet_bin .eql 3 3 _ _ rfl (.int .i64 z.at_) (.int .i64 (a0 : Nat)) (.bool true) rfl rfl (fun W _ => rfl) (fun W _ => HEA.out W) ?_; go_frame; go_big_quiet_on)
                      | (with_reducible show Oper.quiet _ (Oper.mk (some 67) _ _ _ _ _) _ _ _; refine quiet_value (.pointer (some ⟨bw, ow + i * 36, none⟩)) (fun W _ => by go_simp) ?_; go_frame; go_big_quiet_on)
                      | (with_reducible show Oper.quiet _ (Oper.mk (some 68) _ _ _ _ _) _ _ _; refine quiet_value (.pointer (some ⟨bw, ow + i * 36, none⟩)) (fun W _ => by go_simp) ?_; go_frame; go_big_quiet_on)
                      | (with_reducible show Oper.quiet _ (Oper.mk (some 69) _ _ _ _ _) _ _ _; refine quiet_load_one 3 (.tmp 68) rfl bw (ow + i * 36) rfl (.int .i64 (a0 : Nat)) (fun W hW => hW.elim fun j hj => by subst hj; exact ld3 (cell_drewN (cell_drewN HCX.out))) ?_; go_frame; go_big_quiet_on)
                      | (with_reducible show Oper.quiet _ (Oper.mk (some 70) _ _ _ _ _) _ _ _; refine quiet_value (.pointer (some ⟨bs, a0 * 32, none⟩)) (fun W _ => by go_simp) ?_; go_frame; go_big_quiet_on)
                      | (with_reducible show Oper.quiet _ (Oper.mk (some 71) _ _ _ _ _) _ _ _; refine quiet_load_mid 66 (.tmp 70) rfl bs (a0 * 32) rfl (cellsS y.s) _ (fun W hW => hW.elim fun j hj => by subst hj; exact range_drewN (range_drewN HRS.out)) Try.underlying66 rfl (by rw [cellsS_len]; exact info66) ?_; go_frame; go_big_quiet_on)
                      | (with_reducible show Oper.quiet _ (Oper.mk (some 74) _ _ _ _ _) _ _ _; refine quiet_value (.pointer (some ⟨bw, ow + k2 * 36, none⟩)) (fun W _ => by go_simp) ?_; go_frame; go_big_quiet_on)
                      | (with_reducible show Oper.quiet _ (Oper.mk (some 75) _ _ _ _ _) _ _ _; refine quiet_value (.pointer (some ⟨bw, ow + k2 * 36 + 1, none⟩)) (fun W _ => by go_simp) ?_; go_frame; go_big_quiet_on)
                      | (with_reducible show Oper.quiet _ (Oper.mk (some 76) _ _ _ _ _) _ _ _; refine quiet_load_mid 66 (.tmp 75) rfl bw (ow + k2 * 36 + 1) rfl (cellsS z.s) _ (fun W hW => hW.elim fun j hj => by subst hj; exact range_drewN (range_drewN HRZ.out)) Try.underlying66 rfl (by rw [cellsS_len]; exact info66) ?_; go_frame; go_big_quiet_on)
                      | (with_reducible show Oper.quiet _ (Oper.mk (some 77) _ _ _ _ _) _ _ _; refine quiet_bin .eql 66 66 _ _ rfl (.agg (cellsS y.s).toArray) (.agg (cellsS z.s).toArray) (.bool e) rfl rfl (fun W _ => guard_sec W _ _ _ _ _) (fun W _ => HEE.out W) ?_; go_frame; go_big_quiet_on)
                      | (with_reducible show Oper.quiet _ (Oper.mk (some 78) _ _ _ _ _) _ _ _; refine quiet_value (.bool e) (fun W _ => Ph.run_pick_t rfl rfl rfl) ?_; go_frame; go_big_quiet_on)
                      | (with_reducible show Oper.quiet _ (Oper.mk (some 79) _ _ _ _ _) _ _ _; refine quiet_value (.bool e) (fun W _ => Ph.run_pick_f rfl rfl rfl) ?_; go_frame; go_big_quiet_on)
                      | (go_big_quiet_op; go_big_quiet_on)))
                    refine wpQuiet_nil ?_
                    rintro _ ⟨nq, rfl⟩
                    go_wp2_with fail
                    exact ⟨⟨k2 + 1, m2 + nq, e, by omega, by omega, rfl, by go_num, Lib.hid (fun h => by have := HFIN.out h; simpa using this), rfl⟩, by simp [intOf]; omega⟩
              · obtain rfl : k2 = n := by omega
                have hok := HOK.out HMN.out
                subst hok
                go_wp2_with fail
                exact ⟨⟨i + 1, m2, by omega, by go_num, rfl⟩, by simp [intOf]; omega⟩
    · obtain rfl : i = n := by omega
      go_wp2_with fail
      go_ret
      exact ⟨rfl, below_drewN HB.out⟩
end
end Go.Proofs.Ytikhhipgamllgaa
