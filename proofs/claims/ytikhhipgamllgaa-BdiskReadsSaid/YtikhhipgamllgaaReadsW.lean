/- BdiskReads returns true. Conditions: the acts' parts are there, and fit their kinds. -/
import Derived.Test.YtikhhipgamllgaaReadsL
namespace Go.Proofs.Ytikhhipgamllgaa
open Go.RowKit
set_option maxRecDepth 100000 in
set_option maxHeartbeats 8000000 in
theorem breads_any (sectors : Int) (A : Option Addr) (c : Nat) (acts : List Ac) (w : World) (hr : Reads w w.heap.size 38 A acts.length (acts.flatMap cellsA)) (hok : ∀ a ∈ acts, OkA w w.heap.size a) :
    Calls Try.prog 8 #[.int .i64 sectors, .slice A acts.length c] w fun o w' => o = .returned (.bool true) ∧ Below w.heap.size w w' := by
  have CL : Hid (Calls Try.prog 40 #[.slice A acts.length c, .int .i64 60] w fun o w' => o = .returned (.bool (lightB acts 60)) ∧ w' = w) := Lib.hid (light_any A c acts 60 w hr)
  have HR := Lib.hid hr
  have HOK := Lib.hid hok
  obtain ⟨n, hn⟩ : ∃ n, n = acts.length := ⟨_, rfl⟩
  obtain ⟨li, hli⟩ : ∃ b, b = lightB acts 60 := ⟨_, rfl⟩
  rw [← hn, ← hli] at CL
  rw [← hn]
  have HN := Lib.hid hn
  have HLI := Lib.hid hli
  clear hr hok hn hli
  cases li with
  | false =>
    go_enter Try.func8, Try.ntmps8
    go_wp2_with fail
    refine CL.out.mono ?_
    rintro o w' ⟨rfl, e⟩
    obtain rfl := e.symm
    go_wp2_with fail
    refine (knows5_any _).mono ?_
    rintro o w' ⟨rfl, hb⟩
    have HB := Lib.hid hb
    clear hb
    go_wp2_with fail
    go_ret
    exact ⟨rfl, HB.out⟩
  | true =>
    have hn60 : n ≤ 60 := by
      have h := HLI.out.symm
      unfold lightB at h
      have := (Bool.and_eq_true _ _).mp h
      have := of_decide_eq_true this.2
      rw [HN.out]; exact this
    have HLIT : Hid (∀ a ∈ acts, a.ts.length ≤ 50 ∧ a.bad.length ≤ 50) := Lib.hid (fun a ha => by
      have h := HLI.out.symm
      unfold lightB at h
      have h1 := ((Bool.and_eq_true _ _).mp h).1
      rw [List.take_of_length_le (by rw [← HN.out]; omega)] at h1
      have h2 := List.all_eq_true.1 h1 a ha
      unfold litB at h2
      have h3 := (Bool.and_eq_true _ _).mp h2
      exact ⟨of_decide_eq_true h3.1, of_decide_eq_true h3.2⟩)
    by_cases hs : sectors < 1 ∨ 65 < sectors
    · obtain ⟨b1, e1⟩ : ∃ b, decide (sectors < 1) = b := ⟨_, rfl⟩
      obtain ⟨b2, e2⟩ : ∃ b, decide (sectors > 65) = b := ⟨_, rfl⟩
      have hb : b1 = true ∨ b2 = true := by
        rcases hs with h | h
        · left; rw [← e1]; simpa using h
        · right; rw [← e2]; simpa using h
      have HNB := Lib.hid (fun W => new_bad sectors W hs)
      clear hs
      cases b1 <;> cases b2 <;> first | (rcases hb with hb | hb <;> cases hb; done) | skip
      all_goals
        clear hb
        go_enter Try.func8, Try.ntmps8
        go_wp2_with (first
          | (go_at_call 40; refine CL.out.mono ?_; rintro o w' ⟨rfl, e⟩; obtain rfl := e.symm; clear e)
          | (go_at_call 41; refine (knows5_any _).mono ?_; rintro o w1 ⟨rfl, hb1⟩; have HB1 := Lib.hid hb1; clear hb1)
          | (go_at_call 42; refine (HNB.out _).mono ?_; rintro o w2 ⟨rfl, rfl⟩)
          | (go_at_call 43; refine (num_any _ _).mono ?_; rintro o w' ⟨rfl, rfl⟩)
          | (go_at_call 44; refine (nobody_any _).mono ?_; rintro o w3 ⟨rfl, hb3⟩; have HB3 := Lib.hid hb3; clear hb3))
        go_ret
        exact ⟨rfl, below_then HB1.out HB3.out⟩
    · obtain ⟨sn, rfl⟩ : ∃ sn : Nat, sectors = sn := ⟨sectors.toNat, by omega⟩
      have hs1 : 0 < sn := by omega
      have hs2 : sn ≤ 65 := by omega
      have e1 : decide ((sn : Int) < 1) = false := by simp; omega
      have e2 : decide ((sn : Int) > 65) = false := by simp; omega
      have HNW : Hid (∀ W, Calls Try.prog 42 #[.int .i64 (sn : Nat)] W (GotDisk W (Dk.fresh sn))) := Lib.hid (fun W => new_any sn hs1 hs2 W)
      have HZ : Hid (∀ W, (zeroValue 67).run Try.prog W = .ok (.agg (List.replicate 2080 (Value.int .u8 0)).toArray) W) := Lib.hid z67
      clear hs
      go_enter Try.func8, Try.ntmps8
      go_wp2_with (first
        | (go_at_call 40; refine CL.out.mono ?_; rintro o w' ⟨rfl, e⟩; obtain rfl := e.symm; clear e)
        | (go_at_call 41; refine (knows5_any _).mono ?_; rintro o w1 ⟨rfl, hb1⟩; have HB1 := Lib.hid hb1; clear hb1)
        | (go_at_call 42; refine (HNW.out _).mono ?_; rintro o w2 ⟨g, F, rfl, hd2, hF2, hb2⟩; have HST := Lib.hid (law_start hd2 (fun q hq => Nat.le_trans HB1.out.size (hF2 q hq)) (below_then HB1.out hb2)); clear hd2 hF2 hb2; obtain ⟨za, hza⟩ : ∃ z, z = (List.replicate 2080 (Value.int .u8 0)).toArray := ⟨_, rfl⟩; rw [← hza] at HST HZ; clear hza; obtain ⟨w3, hw3⟩ : ∃ w3, w2.alloc (.cells za 67) = w3 := ⟨_, rfl⟩; rw [hw3] at HST; have HW3 := Lib.hid hw3; clear hw3)
        | (with_reducible show wpList _ _ _ (Oper.mk _ (Op.alloc 67) _ _ _ _ :: _) _ _; go_must (refine wpList_wrun (w' := w2.alloc (.cells za 67)) rfl (.pointer (some ⟨w2.heap.size, 0, none⟩)) (Ph.run_alloc (z := .agg za) rfl (HZ.out w2)) ?_; rw [HW3.out])))
      -- ROUNDS
      obtain ⟨g7, hg7⟩ : ∃ g7, g7 = w2.heap.size := ⟨_, rfl⟩
      rw [← hg7] at HST ⊢
      clear hg7 HW3 HZ HB1 HNW CL e1 e2
      go_loopw [8] (fun i wr => ∃ (k : Nat) (F : Nat → Prop) (L : List Sec) (D : Dk), k ≤ n ∧ i = .int .i64 k ∧ Hid (LawAt w sn k g g7 F L D wr)) (fun i _ => n - (intOf i).toNat)
      case atStart => exact ⟨0, F, _, _, by omega, rfl, HST⟩
      case round =>
        obtain ⟨k, F1, L1, D1, hk, rfl, HS1⟩ := hrel
        by_cases hlt : k < n
        · obtain ⟨a, ha⟩ : ∃ a, acts[k]? = some a := ⟨_, List.getElem?_eq_getElem (by rw [← HN.out]; exact hlt)⟩
          obtain ⟨bb, ob, rfl, hbb, hit⟩ := HR.out.item (f := cellsA) cellsA_len (by omega) (k := k) (by rw [← HN.out]; exact hlt)
          have hra := rangeAt_below (hit k a ha) HS1.out.below hbb
          have hmem := List.mem_of_getElem? ha
          have HAO := Lib.hid (HOK.out a hmem)
          have HAL := Lib.hid (HLIT.out a hmem)
          obtain ⟨w4, hw4⟩ : ∃ w4, wr.alloc (.cells (cellsA a).toArray 72) = w4 := ⟨_, rfl⟩
          have hb4 : Below wr.heap.size wr w4 := by rw [← hw4]; exact (Below.refl _ wr).alloc (Nat.le_refl _) _
          have hk4 : Blk w4 wr.heap.size 72 (cellsA a).toArray := by rw [← hw4]; exact Blk.new wr 72 _
          have hst4 : (Instr.storeAt 72 (.pointer (some ⟨wr.heap.size, 0, none⟩)) (.agg (cellsA a).toArray)).run Try.prog (wr.alloc (.cells (cellsA zeroAc).toArray 72)) = .ok () w4 := by rw [← hw4]; exact store72 wr a zeroAc
          have HS4 := Lib.hid (HS1.out.grow hb4)
          obtain ⟨g9, hg9⟩ : ∃ g9, g9 = wr.heap.size := ⟨_, rfl⟩
          have HF9 : Hid (¬ F1 g9 ∧ g9 ≠ g7) := Lib.hid ⟨fun h => by have := HS1.out.disk.lt _ h; omega, fun h => by have := HS1.out.last.lt; omega⟩
          have HG9 := Lib.hid hg9
          rw [← hg9] at hk4 hst4
          have HK4 := Lib.hid hk4
          have HST4 := Lib.hid hst4
          have HRA := Lib.hid hra
          have hl1 : (k : Int) < (n : Int) := by omega
          obtain ⟨kd, hkd⟩ : ∃ kd, kd = a.kind := ⟨_, rfl⟩
          have HC0 : Hid (∀ W, Blk W g9 72 (cellsA a).toArray → W.cell? ⟨g9, 0, none⟩ = some (.int .i64 kd)) := Lib.hid (fun W h => by rw [hkd]; exact h.list (cellsA_kind a))
          have c0 := HC0.out _ HK4.out
          have HSX : Hid (∀ W, Blk W g9 72 (cellsA a).toArray → W.rangeAt g9 2 (cellsS a.s)) := Lib.hid (fun W h => h.range 2 _ (cellsA_s a))
          have HTX : Hid (∀ W, Blk W g9 72 (cellsA a).toArray → W.rangeAt g9 34 (cellsT a.t)) := Lib.hid (fun W h => h.range 34 _ (cellsA_t a))
          clear ha hit hbb hra hmem hw4 hb4 hk4 hst4 hg9 hkd
          rcases (show kd < 0 ∨ 0 ≤ kd by omega) with hk0 | hk0
          · have e3 : (kd == 3) = false := by simp; omega
            have e3' : decide (kd = 3) = false := by simp; omega
            have e2 : (kd == 2) = false := by simp; omega
            have e2' : decide (kd = 2) = false := by simp; omega
            have f0 : decide (kd ≥ 0) = false := by simp; omega
            have f1 : decide (0 ≤ kd) = false := by simp; omega
            have f2 : decide (kd < 2) = true := by simp; omega
            go_wp2_with (first
              | (with_reducible show wpList _ _ _ (Oper.mk _ (Op.load 72 _) _ _ _ _ :: _) _ _; go_must (refine wpList_wrun rfl _ (Ph.run_load (X := .pointer (some ⟨bb, ob + k * 38, none⟩)) rfl rfl (ldA HRA.out)) ?_))
              | (with_reducible show wpList _ _ _ (Oper.mk _ (Op.alloc 72) _ _ _ _ :: _) _ _; go_must (refine wpList_wrun (w' := wr.alloc (.cells (cellsA zeroAc).toArray 72)) rfl (.pointer (some ⟨wr.heap.size, 0, none⟩)) (Ph.run_alloc (z := .agg (cellsA zeroAc).toArray) rfl (z72 wr)) ?_; rw [← HG9.out]))
              | (with_reducible show wpList _ _ _ (Oper.mk none (Op.store 72 _ _) _ _ _ _ :: _) _ _; go_must (refine wpList_done rfl w4 (Ph.run_store (X := .pointer (some ⟨g9, 0, none⟩)) (Y := .agg (cellsA a).toArray) rfl rfl rfl HST4.out) ?_)))
            have HSI := Lib.hid HS4.out.more
            go_loopw [11] (fun j wj => ∃ q : Nat, q ≤ sn ∧ j = .int .i64 q ∧ Hid (LawAt w sn (k + 1) g g7 F1 L1 D1 wj)) (fun j _ => sn - (intOf j).toNat)
            case atStart => exact ⟨0, by omega, rfl, HSI⟩
            case round =>
              obtain ⟨q, hq, rfl, HSJ⟩ := hrel
              by_cases hlq : q < sn
              · obtain ⟨bv, sv, wv, lv, hdj⟩ := HSJ.out.disk
                have hrd := read_any hdj (q : Int) (by rw [HSJ.out.held.len]; omega) (by have := HSJ.out.held.wait; omega)
                rw [HSJ.out.held.read q hlq] at hrd
                have hrg := HSJ.out.get (j := q) (by omega)
                obtain ⟨s, hs⟩ : ∃ s, s = L1.getD q zeroSec := ⟨_, rfl⟩
                simp only [← hs] at hrd hrg
                have HRD := Lib.hid hrd
                have HRG := Lib.hid hrg
                have hl4 : (q : Int) < (sn : Int) := by omega
                have hl5 : (q : Int) < 65 := by omega
                clear hdj hrd hrg hs
                go_wp2_with fail
                refine HRD.out.mono ?_
                rintro o w8 ⟨rfl, hb8⟩
                obtain ⟨w9, _, hk9, hb9, hst9⟩ := box_world w8 s zeroSec
                have HS9 := Lib.hid (HSJ.out.grow (below_then hb8 hb9))
                have HRG9 := Lib.hid (rangeAt_below HRG.out (below_then hb8 hb9) HSJ.out.last.lt)
                have HLT9 := Lib.hid HS9.out.last.lt
                obtain ⟨g12, hg12⟩ : ∃ g12, g12 = w8.heap.size := ⟨_, rfl⟩
                rw [← hg12] at hk9 hst9
                have HG12 := Lib.hid hg12
                have HK9 := Lib.hid hk9
                have HST9 := Lib.hid hst9
                clear hb8 hk9 hb9 hst9 hg12
                go_wp2_with (first
                  | (with_reducible show wpList _ _ _ (Oper.mk _ (Op.alloc 66) _ _ _ _ :: _) _ _; go_must (refine wpList_wrun (w' := w8.alloc (.cells (cellsS zeroSec).toArray 66)) rfl (.pointer (some ⟨w8.heap.size, 0, none⟩)) (Ph.run_alloc (z := .agg (cellsS zeroSec).toArray) rfl (z66 w8)) ?_; rw [← HG12.out]))
                  | (with_reducible show wpList _ _ _ (Oper.mk none (Op.store 66 _ _) _ _ _ _ :: _) _ _; go_must (refine wpList_done rfl w9 (Ph.run_store (X := .pointer (some ⟨g12, 0, none⟩)) (Y := .agg (cellsS s).toArray) rfl rfl rfl HST9.out) ?_)))
                refine wp_region_quiet_all (fun W => Below w9.heap.size w9 W) (by kernel_rfl) (by kernel_rfl) ((Below.refl _ w9).drew) ?_
                repeat (first | go_big_quiet_skip | (go_big_quiet_want; first
                  | (with_reducible show Oper.quiet _ (Oper.mk (some 111) _ _ _ _ _) _ _ _; refine quiet_call 43 #[.int .i64 0] (.int .i64 0) (fun W _ => by go_simp) (fun W hW => (num_any 0 W).mono fun e w' h => ⟨h.1, by rw [h.2]; exact hW⟩) ?_; go_frame; go_big_quiet_on)
                  | (with_reducible show Oper.quiet _ (Oper.mk (some 112) _ _ _ _ _) _ _ _; refine quiet_bin .neq 3 3 _ _ rfl (.int .i64 0) (.int .i64 0) (.bool false) rfl rfl (fun W _ => by kernel_rfl) (fun W _ => by kernel_rfl) ?_; go_frame; go_big_quiet_on)
                  | (with_reducible show Oper.quiet _ (Oper.mk (some 114) _ _ _ _ _) _ _ _; refine quiet_load_mid 66 (.tmp 12) rfl g12 0 rfl (cellsS s) _ (fun W hW => range0 (HK9.out.below hW HK9.out.lt)) Try.underlying66 rfl (by rw [cellsS_len]; exact info66) ?_; go_frame; go_big_quiet_on)
                  | (with_reducible show Oper.quiet _ (Oper.mk (some 116) _ _ _ _ _) _ _ _; refine quiet_value (.pointer (some ⟨g7, q * 32, none⟩)) (fun W _ => by go_simp) ?_; go_frame; go_big_quiet_on)
                  | (with_reducible show Oper.quiet _ (Oper.mk (some 117) _ _ _ _ _) _ _ _; refine quiet_load_mid 66 (.tmp 116) rfl g7 (q * 32) rfl (cellsS s) _ (fun W hW => rangeAt_below HRG9.out hW HLT9.out) Try.underlying66 rfl (by rw [cellsS_len]; exact info66) ?_; go_frame; go_big_quiet_on)
                  | (with_reducible show Oper.quiet _ (Oper.mk (some 118) _ _ _ _ _) _ _ _; refine quiet_bin .neq 66 66 _ _ rfl (.agg (cellsS s).toArray) (.agg (cellsS s).toArray) (.bool false) rfl rfl (fun W _ => guard_sec W _ _ _ _ _) (fun W _ => neq_sec W s) ?_; go_frame; go_big_quiet_on)
                  | (with_reducible show Oper.quiet _ (Oper.mk (some 119) _ _ _ _ _) _ _ _; refine quiet_value (.bool false) (fun W _ => Ph.run_pick_f rfl rfl rfl) ?_; go_frame; go_big_quiet_on)
                  | (go_big_quiet_op; go_big_quiet_on)))
                refine wpQuiet_nil ?_
                intro w10 hw10
                have HS10 := Lib.hid (HS9.out.grow hw10)
                clear hw10
                go_wp2_with fail
                exact ⟨⟨q + 1, by omega, by go_num, HS10⟩, by simp [intOf]; omega⟩
              · obtain rfl : q = sn := by omega
                go_wp2_with fail
                exact ⟨⟨k + 1, F1, L1, D1, by omega, by go_num, HSJ⟩, by simp [intOf]; omega⟩
          rcases (show kd < 2 ∨ 2 ≤ kd by omega) with hk2 | hk2
          · have e3 : (kd == 3) = false := by simp; omega
            have e3' : decide (kd = 3) = false := by simp; omega
            have e2 : (kd == 2) = false := by simp; omega
            have e2' : decide (kd = 2) = false := by simp; omega
            have f0 : decide (kd ≥ 0) = true := by simp; omega
            have f1 : decide (0 ≤ kd) = true := by simp; omega
            have f2 : decide (kd < 2) = true := by simp; omega
            obtain ⟨at_, hat⟩ : ∃ at_, at_ = a.at_ := ⟨_, rfl⟩
            have HC1 : Hid (∀ W, Blk W g9 72 (cellsA a).toArray → W.cell? ⟨g9, 1, none⟩ = some (.int .i64 at_)) := Lib.hid (fun W h => by rw [hat]; exact h.list (cellsA_at a))
            have HOI : Hid (okI at_) := Lib.hid (by rw [hat]; exact HAO.out.2.2.2.2)
            clear hat
            rcases held_write HS4.out.held at_ a.s a.t HAO.out.2.2.2.1 HOI.out with ⟨hc, h0, h1, hh⟩ | ⟨hc, hh⟩
            · obtain ⟨m, rfl⟩ : ∃ m : Nat, at_ = m := ⟨at_.toNat, by omega⟩
              simp only [Int.toNat_natCast] at hh
              obtain ⟨bv, sv, wv, lv, hd⟩ := HS4.out.disk
              have CW := write_any hd (by rw [HS4.out.held.len]; exact hs1) (by have := HS4.out.held.nx; omega) (by have := HS4.out.held.wait; omega) (by have := HS4.out.held.log; omega) m a.s a.t
              rw [hc] at CW
              have HCW := Lib.hid CW
              have HHH := Lib.hid hh
              have c1 := HC1.out _ HK4.out
              clear hd CW hc hh
              go_wp2_with (first
                | (with_reducible show wpList _ _ _ (Oper.mk _ (Op.load 72 _) _ _ _ _ :: _) _ _; go_must (refine wpList_wrun rfl _ (Ph.run_load (X := .pointer (some ⟨bb, ob + k * 38, none⟩)) rfl rfl (ldA HRA.out)) ?_))
                | (with_reducible show wpList _ _ _ (Oper.mk _ (Op.alloc 72) _ _ _ _ :: _) _ _; go_must (refine wpList_wrun (w' := wr.alloc (.cells (cellsA zeroAc).toArray 72)) rfl (.pointer (some ⟨wr.heap.size, 0, none⟩)) (Ph.run_alloc (z := .agg (cellsA zeroAc).toArray) rfl (z72 wr)) ?_; rw [← HG9.out]))
                | (with_reducible show wpList _ _ _ (Oper.mk none (Op.store 72 _ _) _ _ _ _ :: _) _ _; go_must (refine wpList_done rfl w4 (Ph.run_store (X := .pointer (some ⟨g9, 0, none⟩)) (Y := .agg (cellsA a).toArray) rfl rfl rfl HST4.out) ?_))
                | (with_reducible show wpList _ _ _ (Oper.mk _ (Op.load 66 _) _ _ _ _ :: _) _ _; go_must (refine wpList_wrun rfl _ (Ph.run_load (X := .pointer (some ⟨g9, 2, none⟩)) rfl rfl (ldSm (HSX.out _ HK4.out))) ?_))
                | (with_reducible show wpList _ _ _ (Oper.mk _ (Op.load 69 _) _ _ _ _ :: _) _ _; go_must (refine wpList_wrun rfl _ (Ph.run_load (X := .pointer (some ⟨g9, 34, none⟩)) rfl rfl (ldTm (HTX.out _ HK4.out))) ?_)))
              refine HCW.out.mono ?_
              rintro o w5 ⟨rfl, ht⟩
              obtain ⟨F5, hd5, hl5, hb5, hf5, hB5, ho5, hh5⟩ := HS4.out.turn ht HHH.out
              obtain ⟨w6, hst6, hO6, hS6⟩ := HS4.out.wrote (by omega) hd5 hl5 hb5 hf5 hB5 hh5
              have HK5 := Lib.hid (ho5.blk HK4.out HF9.out.1)
              have HK6 := Lib.hid (hO6.blk HK5.out HF9.out.2)
              have HST6 := Lib.hid hst6
              have HSI := Lib.hid hS6
              have hm65 : (m : Int) < 65 := by omega
              clear c0 c1 ht hd5 hl5 hb5 hf5 hB5 ho5 hh5 hst6 hO6 hS6
              have c1 := HC1.out _ HK5.out
              have c0 := HC0.out _ HK6.out
              go_wp2_with (first
                | (go_at_call 43; refine (num_any _ _).mono ?_; rintro o w' ⟨rfl, e⟩; obtain rfl := e.symm; clear e)
                | (with_reducible show wpList _ _ _ (Oper.mk _ (Op.load 66 _) _ _ _ _ :: _) _ _; go_must (refine wpList_wrun rfl _ (Ph.run_load (X := .pointer (some ⟨g9, 2, none⟩)) rfl rfl (ldSm (HSX.out _ HK5.out))) ?_))
                | (with_reducible show wpList _ _ _ (Oper.mk none (Op.store 66 _ _) _ _ _ _ :: _) _ _; go_must (refine wpList_done rfl w6 (Ph.run_store (X := .pointer (some ⟨g7, m * 32, none⟩)) (Y := .agg (cellsS a.s).toArray) rfl rfl rfl HST6.out) ?_)))
              go_loopw [11] (fun j wj => ∃ q : Nat, q ≤ sn ∧ j = .int .i64 q ∧ Hid (LawAt w sn (k + 1) g g7 F5 (L1.set m a.s) (D1.write m a.s a.t).1 wj)) (fun j _ => sn - (intOf j).toNat)
              case atStart => exact ⟨0, by omega, rfl, HSI⟩
              case round =>
                obtain ⟨q, hq, rfl, HSJ⟩ := hrel
                by_cases hlq : q < sn
                · obtain ⟨bv, sv, wv, lv, hdj⟩ := HSJ.out.disk
                  have hrd := read_any hdj (q : Int) (by rw [HSJ.out.held.len]; omega) (by have := HSJ.out.held.wait; omega)
                  rw [HSJ.out.held.read q hlq] at hrd
                  have hrg := HSJ.out.get (j := q) (by omega)
                  obtain ⟨s, hs⟩ : ∃ s, s = (L1.set m a.s).getD q zeroSec := ⟨_, rfl⟩
                  simp only [← hs] at hrd hrg
                  have HRD := Lib.hid hrd
                  have HRG := Lib.hid hrg
                  have hl4 : (q : Int) < (sn : Int) := by omega
                  have hl5 : (q : Int) < 65 := by omega
                  clear hdj hrd hrg hs
                  go_wp2_with fail
                  refine HRD.out.mono ?_
                  rintro o w8 ⟨rfl, hb8⟩
                  obtain ⟨w9, _, hk9, hb9, hst9⟩ := box_world w8 s zeroSec
                  have HS9 := Lib.hid (HSJ.out.grow (below_then hb8 hb9))
                  have HRG9 := Lib.hid (rangeAt_below HRG.out (below_then hb8 hb9) HSJ.out.last.lt)
                  have HLT9 := Lib.hid HS9.out.last.lt
                  obtain ⟨g12, hg12⟩ : ∃ g12, g12 = w8.heap.size := ⟨_, rfl⟩
                  rw [← hg12] at hk9 hst9
                  have HG12 := Lib.hid hg12
                  have HK9 := Lib.hid hk9
                  have HST9 := Lib.hid hst9
                  clear hb8 hk9 hb9 hst9 hg12
                  go_wp2_with (first
                    | (with_reducible show wpList _ _ _ (Oper.mk _ (Op.alloc 66) _ _ _ _ :: _) _ _; go_must (refine wpList_wrun (w' := w8.alloc (.cells (cellsS zeroSec).toArray 66)) rfl (.pointer (some ⟨w8.heap.size, 0, none⟩)) (Ph.run_alloc (z := .agg (cellsS zeroSec).toArray) rfl (z66 w8)) ?_; rw [← HG12.out]))
                    | (with_reducible show wpList _ _ _ (Oper.mk none (Op.store 66 _ _) _ _ _ _ :: _) _ _; go_must (refine wpList_done rfl w9 (Ph.run_store (X := .pointer (some ⟨g12, 0, none⟩)) (Y := .agg (cellsS s).toArray) rfl rfl rfl HST9.out) ?_)))
                  refine wp_region_quiet_all (fun W => Below w9.heap.size w9 W) (by kernel_rfl) (by kernel_rfl) ((Below.refl _ w9).drew) ?_
                  repeat (first | go_big_quiet_skip | (go_big_quiet_want; first
                    | (with_reducible show Oper.quiet _ (Oper.mk (some 111) _ _ _ _ _) _ _ _; refine quiet_call 43 #[.int .i64 0] (.int .i64 0) (fun W _ => by go_simp) (fun W hW => (num_any 0 W).mono fun e w' h => ⟨h.1, by rw [h.2]; exact hW⟩) ?_; go_frame; go_big_quiet_on)
                    | (with_reducible show Oper.quiet _ (Oper.mk (some 112) _ _ _ _ _) _ _ _; refine quiet_bin .neq 3 3 _ _ rfl (.int .i64 0) (.int .i64 0) (.bool false) rfl rfl (fun W _ => by kernel_rfl) (fun W _ => by kernel_rfl) ?_; go_frame; go_big_quiet_on)
                    | (with_reducible show Oper.quiet _ (Oper.mk (some 114) _ _ _ _ _) _ _ _; refine quiet_load_mid 66 (.tmp 12) rfl g12 0 rfl (cellsS s) _ (fun W hW => range0 (HK9.out.below hW HK9.out.lt)) Try.underlying66 rfl (by rw [cellsS_len]; exact info66) ?_; go_frame; go_big_quiet_on)
                    | (with_reducible show Oper.quiet _ (Oper.mk (some 116) _ _ _ _ _) _ _ _; refine quiet_value (.pointer (some ⟨g7, q * 32, none⟩)) (fun W _ => by go_simp) ?_; go_frame; go_big_quiet_on)
                    | (with_reducible show Oper.quiet _ (Oper.mk (some 117) _ _ _ _ _) _ _ _; refine quiet_load_mid 66 (.tmp 116) rfl g7 (q * 32) rfl (cellsS s) _ (fun W hW => rangeAt_below HRG9.out hW HLT9.out) Try.underlying66 rfl (by rw [cellsS_len]; exact info66) ?_; go_frame; go_big_quiet_on)
                    | (with_reducible show Oper.quiet _ (Oper.mk (some 118) _ _ _ _ _) _ _ _; refine quiet_bin .neq 66 66 _ _ rfl (.agg (cellsS s).toArray) (.agg (cellsS s).toArray) (.bool false) rfl rfl (fun W _ => guard_sec W _ _ _ _ _) (fun W _ => neq_sec W s) ?_; go_frame; go_big_quiet_on)
                    | (with_reducible show Oper.quiet _ (Oper.mk (some 119) _ _ _ _ _) _ _ _; refine quiet_value (.bool false) (fun W _ => Ph.run_pick_f rfl rfl rfl) ?_; go_frame; go_big_quiet_on)
                    | (go_big_quiet_op; go_big_quiet_on)))
                  refine wpQuiet_nil ?_
                  intro w10 hw10
                  have HS10 := Lib.hid (HS9.out.grow hw10)
                  clear hw10
                  go_wp2_with fail
                  exact ⟨⟨q + 1, by omega, by go_num, HS10⟩, by simp [intOf]; omega⟩
                · obtain rfl : q = sn := by omega
                  go_wp2_with fail
                  exact ⟨⟨k + 1, F5, (L1.set m a.s), (D1.write m a.s a.t).1, by omega, by go_num, HSJ⟩, by simp [intOf]; omega⟩
            · obtain ⟨bv, sv, wv, lv, hd⟩ := HS4.out.disk
              have CW := write_any hd (by rw [HS4.out.held.len]; exact hs1) (by have := HS4.out.held.nx; omega) (by have := HS4.out.held.wait; omega) (by have := HS4.out.held.log; omega) at_ a.s a.t
              rw [hc] at CW
              have HCW := Lib.hid CW
              have HHH := Lib.hid hh
              have c1 := HC1.out _ HK4.out
              clear hd CW hc hh
              go_wp2_with (first
                | (with_reducible show wpList _ _ _ (Oper.mk _ (Op.load 72 _) _ _ _ _ :: _) _ _; go_must (refine wpList_wrun rfl _ (Ph.run_load (X := .pointer (some ⟨bb, ob + k * 38, none⟩)) rfl rfl (ldA HRA.out)) ?_))
                | (with_reducible show wpList _ _ _ (Oper.mk _ (Op.alloc 72) _ _ _ _ :: _) _ _; go_must (refine wpList_wrun (w' := wr.alloc (.cells (cellsA zeroAc).toArray 72)) rfl (.pointer (some ⟨wr.heap.size, 0, none⟩)) (Ph.run_alloc (z := .agg (cellsA zeroAc).toArray) rfl (z72 wr)) ?_; rw [← HG9.out]))
                | (with_reducible show wpList _ _ _ (Oper.mk none (Op.store 72 _ _) _ _ _ _ :: _) _ _; go_must (refine wpList_done rfl w4 (Ph.run_store (X := .pointer (some ⟨g9, 0, none⟩)) (Y := .agg (cellsA a).toArray) rfl rfl rfl HST4.out) ?_))
                | (with_reducible show wpList _ _ _ (Oper.mk _ (Op.load 66 _) _ _ _ _ :: _) _ _; go_must (refine wpList_wrun rfl _ (Ph.run_load (X := .pointer (some ⟨g9, 2, none⟩)) rfl rfl (ldSm (HSX.out _ HK4.out))) ?_))
                | (with_reducible show wpList _ _ _ (Oper.mk _ (Op.load 69 _) _ _ _ _ :: _) _ _; go_must (refine wpList_wrun rfl _ (Ph.run_load (X := .pointer (some ⟨g9, 34, none⟩)) rfl rfl (ldTm (HTX.out _ HK4.out))) ?_)))
              refine HCW.out.mono ?_
              rintro o w5 ⟨rfl, ht⟩
              obtain ⟨F5, hS5, ho5⟩ := HS4.out.turned ht HHH.out
              have HK5 := Lib.hid (ho5.blk HK4.out HF9.out.1)
              have HSI := Lib.hid hS5
              clear c0 c1 ht hS5 ho5
              have c0 := HC0.out _ HK5.out
              go_wp2_with (first
                | (go_at_call 43; refine (num_any _ _).mono ?_; rintro o w' ⟨rfl, e⟩; obtain rfl := e.symm; clear e))
              go_loopw [11] (fun j wj => ∃ q : Nat, q ≤ sn ∧ j = .int .i64 q ∧ Hid (LawAt w sn (k + 1) g g7 F5 L1 (D1.write at_ a.s a.t).1 wj)) (fun j _ => sn - (intOf j).toNat)
              case atStart => exact ⟨0, by omega, rfl, HSI⟩
              case round =>
                obtain ⟨q, hq, rfl, HSJ⟩ := hrel
                by_cases hlq : q < sn
                · obtain ⟨bv, sv, wv, lv, hdj⟩ := HSJ.out.disk
                  have hrd := read_any hdj (q : Int) (by rw [HSJ.out.held.len]; omega) (by have := HSJ.out.held.wait; omega)
                  rw [HSJ.out.held.read q hlq] at hrd
                  have hrg := HSJ.out.get (j := q) (by omega)
                  obtain ⟨s, hs⟩ : ∃ s, s = L1.getD q zeroSec := ⟨_, rfl⟩
                  simp only [← hs] at hrd hrg
                  have HRD := Lib.hid hrd
                  have HRG := Lib.hid hrg
                  have hl4 : (q : Int) < (sn : Int) := by omega
                  have hl5 : (q : Int) < 65 := by omega
                  clear hdj hrd hrg hs
                  go_wp2_with fail
                  refine HRD.out.mono ?_
                  rintro o w8 ⟨rfl, hb8⟩
                  obtain ⟨w9, _, hk9, hb9, hst9⟩ := box_world w8 s zeroSec
                  have HS9 := Lib.hid (HSJ.out.grow (below_then hb8 hb9))
                  have HRG9 := Lib.hid (rangeAt_below HRG.out (below_then hb8 hb9) HSJ.out.last.lt)
                  have HLT9 := Lib.hid HS9.out.last.lt
                  obtain ⟨g12, hg12⟩ : ∃ g12, g12 = w8.heap.size := ⟨_, rfl⟩
                  rw [← hg12] at hk9 hst9
                  have HG12 := Lib.hid hg12
                  have HK9 := Lib.hid hk9
                  have HST9 := Lib.hid hst9
                  clear hb8 hk9 hb9 hst9 hg12
                  go_wp2_with (first
                    | (with_reducible show wpList _ _ _ (Oper.mk _ (Op.alloc 66) _ _ _ _ :: _) _ _; go_must (refine wpList_wrun (w' := w8.alloc (.cells (cellsS zeroSec).toArray 66)) rfl (.pointer (some ⟨w8.heap.size, 0, none⟩)) (Ph.run_alloc (z := .agg (cellsS zeroSec).toArray) rfl (z66 w8)) ?_; rw [← HG12.out]))
                    | (with_reducible show wpList _ _ _ (Oper.mk none (Op.store 66 _ _) _ _ _ _ :: _) _ _; go_must (refine wpList_done rfl w9 (Ph.run_store (X := .pointer (some ⟨g12, 0, none⟩)) (Y := .agg (cellsS s).toArray) rfl rfl rfl HST9.out) ?_)))
                  refine wp_region_quiet_all (fun W => Below w9.heap.size w9 W) (by kernel_rfl) (by kernel_rfl) ((Below.refl _ w9).drew) ?_
                  repeat (first | go_big_quiet_skip | (go_big_quiet_want; first
                    | (with_reducible show Oper.quiet _ (Oper.mk (some 111) _ _ _ _ _) _ _ _; refine quiet_call 43 #[.int .i64 0] (.int .i64 0) (fun W _ => by go_simp) (fun W hW => (num_any 0 W).mono fun e w' h => ⟨h.1, by rw [h.2]; exact hW⟩) ?_; go_frame; go_big_quiet_on)
                    | (with_reducible show Oper.quiet _ (Oper.mk (some 112) _ _ _ _ _) _ _ _; refine quiet_bin .neq 3 3 _ _ rfl (.int .i64 0) (.int .i64 0) (.bool false) rfl rfl (fun W _ => by kernel_rfl) (fun W _ => by kernel_rfl) ?_; go_frame; go_big_quiet_on)
                    | (with_reducible show Oper.quiet _ (Oper.mk (some 114) _ _ _ _ _) _ _ _; refine quiet_load_mid 66 (.tmp 12) rfl g12 0 rfl (cellsS s) _ (fun W hW => range0 (HK9.out.below hW HK9.out.lt)) Try.underlying66 rfl (by rw [cellsS_len]; exact info66) ?_; go_frame; go_big_quiet_on)
                    | (with_reducible show Oper.quiet _ (Oper.mk (some 116) _ _ _ _ _) _ _ _; refine quiet_value (.pointer (some ⟨g7, q * 32, none⟩)) (fun W _ => by go_simp) ?_; go_frame; go_big_quiet_on)
                    | (with_reducible show Oper.quiet _ (Oper.mk (some 117) _ _ _ _ _) _ _ _; refine quiet_load_mid 66 (.tmp 116) rfl g7 (q * 32) rfl (cellsS s) _ (fun W hW => rangeAt_below HRG9.out hW HLT9.out) Try.underlying66 rfl (by rw [cellsS_len]; exact info66) ?_; go_frame; go_big_quiet_on)
                    | (with_reducible show Oper.quiet _ (Oper.mk (some 118) _ _ _ _ _) _ _ _; refine quiet_bin .neq 66 66 _ _ rfl (.agg (cellsS s).toArray) (.agg (cellsS s).toArray) (.bool false) rfl rfl (fun W _ => guard_sec W _ _ _ _ _) (fun W _ => neq_sec W s) ?_; go_frame; go_big_quiet_on)
                    | (with_reducible show Oper.quiet _ (Oper.mk (some 119) _ _ _ _ _) _ _ _; refine quiet_value (.bool false) (fun W _ => Ph.run_pick_f rfl rfl rfl) ?_; go_frame; go_big_quiet_on)
                    | (go_big_quiet_op; go_big_quiet_on)))
                  refine wpQuiet_nil ?_
                  intro w10 hw10
                  have HS10 := Lib.hid (HS9.out.grow hw10)
                  clear hw10
                  go_wp2_with fail
                  exact ⟨⟨q + 1, by omega, by go_num, HS10⟩, by simp [intOf]; omega⟩
                · obtain rfl : q = sn := by omega
                  go_wp2_with fail
                  exact ⟨⟨k + 1, F5, L1, (D1.write at_ a.s a.t).1, by omega, by go_num, HSJ⟩, by simp [intOf]; omega⟩
          rcases (show kd < 3 ∨ 3 ≤ kd by omega) with hk3 | hk3
          · obtain rfl : kd = 2 := by omega
            obtain ⟨bv, sv, wv, lv, hd⟩ := HS4.out.disk
            have hwl : D1.wait.length ≤ 1000 := by have := HS4.out.held.wait; omega
            have CB := waiting_any hd (by rw [HS4.out.held.len]; exact hs1) hwl
            have HCB := Lib.hid CB
            obtain ⟨tn, htn⟩ : ∃ tn, tn = a.ts.length := ⟨_, rfl⟩
            have HTN := Lib.hid htn
            have HC36 : Hid (∀ W, Blk W g9 72 (cellsA a).toArray → W.cell? ⟨g9, 36, none⟩ = some (.slice a.tA tn a.tc)) := Lib.hid (fun W h => by rw [htn]; exact h.list (cellsA_ts a))
            obtain ⟨wn, hwn⟩ : ∃ wn, wn = D1.wait.length := ⟨_, rfl⟩
            have HWN := Lib.hid hwn
            rw [← hwn] at HCB
            clear hd CB htn hwl hwn
            go_wp2_with (first
              | (with_reducible show wpList _ _ _ (Oper.mk _ (Op.load 72 _) _ _ _ _ :: _) _ _; go_must (refine wpList_wrun rfl _ (Ph.run_load (X := .pointer (some ⟨bb, ob + k * 38, none⟩)) rfl rfl (ldA HRA.out)) ?_))
              | (with_reducible show wpList _ _ _ (Oper.mk _ (Op.alloc 72) _ _ _ _ :: _) _ _; go_must (refine wpList_wrun (w' := wr.alloc (.cells (cellsA zeroAc).toArray 72)) rfl (.pointer (some ⟨wr.heap.size, 0, none⟩)) (Ph.run_alloc (z := .agg (cellsA zeroAc).toArray) rfl (z72 wr)) ?_; rw [← HG9.out]))
              | (with_reducible show wpList _ _ _ (Oper.mk none (Op.store 72 _ _) _ _ _ _ :: _) _ _; go_must (refine wpList_done rfl w4 (Ph.run_store (X := .pointer (some ⟨g9, 0, none⟩)) (Y := .agg (cellsA a).toArray) rfl rfl rfl HST4.out) ?_)))
            refine HCB.out.mono ?_
            rintro o w5 ⟨v5, rfl, ho5, hb5⟩
            obtain ⟨A5, c5, rfl, _⟩ := own_slice ho5
            have HS5 := Lib.hid (HS4.out.grow hb5)
            have HK5 := Lib.hid (HK4.out.below hb5 HK4.out.lt)
            have HO5 := Lib.hid ho5
            have HN5 : Hid (∀ q, (Value.slice A5 wn c5).ownBlock = some q → ¬ F1 q) := Lib.hid (fun q hq hf => by
              have := (ho5.lt q hq).1
              have := HS4.out.disk.lt q hf
              omega)
            obtain ⟨bv, sv, wv, lv, hd5⟩ := HS5.out.disk
            have hsy := sync_any hd5 (by rw [HS5.out.held.len]; exact hs1) (by rw [HS5.out.held.len]; omega) (by have := HS5.out.held.wait; omega) (by have := HS5.out.held.nx; omega) (by have := HS5.out.held.log; omega) (by rw [HS5.out.held.len]; exact HS5.out.held.ok) a.tA a.tc a.ts (by have := HAL.out.1; omega) HAO.out.2.2.1
              (fun W hW => (hW.reads (HAO.out.1.below HS5.out.below) HS5.out.below.size HS5.out.base).more (Nat.le_trans HS5.out.below.size hW.size))
            rw [← HTN.out] at hsy
            have HSY := Lib.hid hsy
            clear c0 ho5 hb5 hd5 hsy
            have c0 := HC0.out _ HK5.out
            have c36 := HC36.out _ HK5.out
            go_wp2_with fail
            refine HSY.out.mono ?_
            rintro o w6 (⟨hff, _⟩ | ⟨_, rfl, A6, c6, ht⟩)
            · rw [HS5.out.held.fails] at hff; cases hff
            obtain ⟨F6, hS6, ho6⟩ := HS5.out.turned ht (held_sync HS5.out.held a.ts A6 c6)
            have HK6 := Lib.hid (ho6.blk HK5.out HF9.out.1)
            have HO6 := Lib.hid (ho6.own HO5.out HN5.out)
            have HAT : Hid (∀ x ∈ D1.wait, atIn x.at_ D1.safe.length = true) := Lib.hid (fun x hx => by rw [HS5.out.held.len]; exact (HS5.out.held.ok x hx).1)
            obtain ⟨bv, sv, wv, lv, hd6⟩ := hS6.disk
            have hr1 := Reads.of_own HO6.out
            rw [HWN.out] at hr1
            have hr2 := (HAO.out.1.below hS6.below).more hS6.below.size
            have hsd := synced_any hd6 (by rw [hS6.held.len]; exact hs1) (by rw [hS6.held.len]; omega) A5 a.tA c5 a.tc D1.wait a.ts (by have := HS5.out.held.wait; omega) (by have := HAL.out.1; omega) hr1 hr2
              (fun x hx => by rw [hS6.held.len, ← HS5.out.held.len]; exact HAT.out x hx)
              (fun i x hx ht => settle_safe D1.next a.ts HAT.out hx ht)
            rw [← HTN.out, ← HWN.out] at hsd
            have HSD := Lib.hid hsd
            have HS6 := Lib.hid hS6
            clear c0 c36 ht hS6 ho6 hd6 hr1 hr2 hsd
            have c36 := HC36.out _ HK6.out
            go_wp2_with fail
            refine HSD.out.mono ?_
            rintro o w7 ⟨rfl, hb7⟩
            have HSI := Lib.hid (HS6.out.grow hb7)
            clear c36 hb7
            go_wp2_with fail
            go_loopw [11] (fun j wj => ∃ q : Nat, q ≤ sn ∧ j = .int .i64 q ∧ Hid (LawAt w sn (k + 1) g g7 F6 L1 (D1.synced a.ts A6 c6) wj)) (fun j _ => sn - (intOf j).toNat)
            case atStart => exact ⟨0, by omega, rfl, HSI⟩
            case round =>
              obtain ⟨q, hq, rfl, HSJ⟩ := hrel
              by_cases hlq : q < sn
              · obtain ⟨bv, sv, wv, lv, hdj⟩ := HSJ.out.disk
                have hrd := read_any hdj (q : Int) (by rw [HSJ.out.held.len]; omega) (by have := HSJ.out.held.wait; omega)
                rw [HSJ.out.held.read q hlq] at hrd
                have hrg := HSJ.out.get (j := q) (by omega)
                obtain ⟨s, hs⟩ : ∃ s, s = L1.getD q zeroSec := ⟨_, rfl⟩
                simp only [← hs] at hrd hrg
                have HRD := Lib.hid hrd
                have HRG := Lib.hid hrg
                have hl4 : (q : Int) < (sn : Int) := by omega
                have hl5 : (q : Int) < 65 := by omega
                clear hdj hrd hrg hs
                go_wp2_with fail
                refine HRD.out.mono ?_
                rintro o w8 ⟨rfl, hb8⟩
                obtain ⟨w9, _, hk9, hb9, hst9⟩ := box_world w8 s zeroSec
                have HS9 := Lib.hid (HSJ.out.grow (below_then hb8 hb9))
                have HRG9 := Lib.hid (rangeAt_below HRG.out (below_then hb8 hb9) HSJ.out.last.lt)
                have HLT9 := Lib.hid HS9.out.last.lt
                obtain ⟨g12, hg12⟩ : ∃ g12, g12 = w8.heap.size := ⟨_, rfl⟩
                rw [← hg12] at hk9 hst9
                have HG12 := Lib.hid hg12
                have HK9 := Lib.hid hk9
                have HST9 := Lib.hid hst9
                clear hb8 hk9 hb9 hst9 hg12
                go_wp2_with (first
                  | (with_reducible show wpList _ _ _ (Oper.mk _ (Op.alloc 66) _ _ _ _ :: _) _ _; go_must (refine wpList_wrun (w' := w8.alloc (.cells (cellsS zeroSec).toArray 66)) rfl (.pointer (some ⟨w8.heap.size, 0, none⟩)) (Ph.run_alloc (z := .agg (cellsS zeroSec).toArray) rfl (z66 w8)) ?_; rw [← HG12.out]))
                  | (with_reducible show wpList _ _ _ (Oper.mk none (Op.store 66 _ _) _ _ _ _ :: _) _ _; go_must (refine wpList_done rfl w9 (Ph.run_store (X := .pointer (some ⟨g12, 0, none⟩)) (Y := .agg (cellsS s).toArray) rfl rfl rfl HST9.out) ?_)))
                refine wp_region_quiet_all (fun W => Below w9.heap.size w9 W) (by kernel_rfl) (by kernel_rfl) ((Below.refl _ w9).drew) ?_
                repeat (first | go_big_quiet_skip | (go_big_quiet_want; first
                  | (with_reducible show Oper.quiet _ (Oper.mk (some 111) _ _ _ _ _) _ _ _; refine quiet_call 43 #[.int .i64 0] (.int .i64 0) (fun W _ => by go_simp) (fun W hW => (num_any 0 W).mono fun e w' h => ⟨h.1, by rw [h.2]; exact hW⟩) ?_; go_frame; go_big_quiet_on)
                  | (with_reducible show Oper.quiet _ (Oper.mk (some 112) _ _ _ _ _) _ _ _; refine quiet_bin .neq 3 3 _ _ rfl (.int .i64 0) (.int .i64 0) (.bool false) rfl rfl (fun W _ => by kernel_rfl) (fun W _ => by kernel_rfl) ?_; go_frame; go_big_quiet_on)
                  | (with_reducible show Oper.quiet _ (Oper.mk (some 114) _ _ _ _ _) _ _ _; refine quiet_load_mid 66 (.tmp 12) rfl g12 0 rfl (cellsS s) _ (fun W hW => range0 (HK9.out.below hW HK9.out.lt)) Try.underlying66 rfl (by rw [cellsS_len]; exact info66) ?_; go_frame; go_big_quiet_on)
                  | (with_reducible show Oper.quiet _ (Oper.mk (some 116) _ _ _ _ _) _ _ _; refine quiet_value (.pointer (some ⟨g7, q * 32, none⟩)) (fun W _ => by go_simp) ?_; go_frame; go_big_quiet_on)
                  | (with_reducible show Oper.quiet _ (Oper.mk (some 117) _ _ _ _ _) _ _ _; refine quiet_load_mid 66 (.tmp 116) rfl g7 (q * 32) rfl (cellsS s) _ (fun W hW => rangeAt_below HRG9.out hW HLT9.out) Try.underlying66 rfl (by rw [cellsS_len]; exact info66) ?_; go_frame; go_big_quiet_on)
                  | (with_reducible show Oper.quiet _ (Oper.mk (some 118) _ _ _ _ _) _ _ _; refine quiet_bin .neq 66 66 _ _ rfl (.agg (cellsS s).toArray) (.agg (cellsS s).toArray) (.bool false) rfl rfl (fun W _ => guard_sec W _ _ _ _ _) (fun W _ => neq_sec W s) ?_; go_frame; go_big_quiet_on)
                  | (with_reducible show Oper.quiet _ (Oper.mk (some 119) _ _ _ _ _) _ _ _; refine quiet_value (.bool false) (fun W _ => Ph.run_pick_f rfl rfl rfl) ?_; go_frame; go_big_quiet_on)
                  | (go_big_quiet_op; go_big_quiet_on)))
                refine wpQuiet_nil ?_
                intro w10 hw10
                have HS10 := Lib.hid (HS9.out.grow hw10)
                clear hw10
                go_wp2_with fail
                exact ⟨⟨q + 1, by omega, by go_num, HS10⟩, by simp [intOf]; omega⟩
              · obtain rfl : q = sn := by omega
                go_wp2_with fail
                exact ⟨⟨k + 1, F6, L1, (D1.synced a.ts A6 c6), by omega, by go_num, HSJ⟩, by simp [intOf]; omega⟩
          rcases (show 3 < kd ∨ kd ≤ 3 by omega) with hk4 | hk4
          · have e3 : (kd == 3) = false := by simp; omega
            have e3' : decide (kd = 3) = false := by simp; omega
            have e2 : (kd == 2) = false := by simp; omega
            have e2' : decide (kd = 2) = false := by simp; omega
            have f2 : decide (kd < 2) = false := by simp; omega
            go_wp2_with (first
              | (with_reducible show wpList _ _ _ (Oper.mk _ (Op.load 72 _) _ _ _ _ :: _) _ _; go_must (refine wpList_wrun rfl _ (Ph.run_load (X := .pointer (some ⟨bb, ob + k * 38, none⟩)) rfl rfl (ldA HRA.out)) ?_))
              | (with_reducible show wpList _ _ _ (Oper.mk _ (Op.alloc 72) _ _ _ _ :: _) _ _; go_must (refine wpList_wrun (w' := wr.alloc (.cells (cellsA zeroAc).toArray 72)) rfl (.pointer (some ⟨wr.heap.size, 0, none⟩)) (Ph.run_alloc (z := .agg (cellsA zeroAc).toArray) rfl (z72 wr)) ?_; rw [← HG9.out]))
              | (with_reducible show wpList _ _ _ (Oper.mk none (Op.store 72 _ _) _ _ _ _ :: _) _ _; go_must (refine wpList_done rfl w4 (Ph.run_store (X := .pointer (some ⟨g9, 0, none⟩)) (Y := .agg (cellsA a).toArray) rfl rfl rfl HST4.out) ?_)))
            have HSI := Lib.hid HS4.out.more
            go_loopw [11] (fun j wj => ∃ q : Nat, q ≤ sn ∧ j = .int .i64 q ∧ Hid (LawAt w sn (k + 1) g g7 F1 L1 D1 wj)) (fun j _ => sn - (intOf j).toNat)
            case atStart => exact ⟨0, by omega, rfl, HSI⟩
            case round =>
              obtain ⟨q, hq, rfl, HSJ⟩ := hrel
              by_cases hlq : q < sn
              · obtain ⟨bv, sv, wv, lv, hdj⟩ := HSJ.out.disk
                have hrd := read_any hdj (q : Int) (by rw [HSJ.out.held.len]; omega) (by have := HSJ.out.held.wait; omega)
                rw [HSJ.out.held.read q hlq] at hrd
                have hrg := HSJ.out.get (j := q) (by omega)
                obtain ⟨s, hs⟩ : ∃ s, s = L1.getD q zeroSec := ⟨_, rfl⟩
                simp only [← hs] at hrd hrg
                have HRD := Lib.hid hrd
                have HRG := Lib.hid hrg
                have hl4 : (q : Int) < (sn : Int) := by omega
                have hl5 : (q : Int) < 65 := by omega
                clear hdj hrd hrg hs
                go_wp2_with fail
                refine HRD.out.mono ?_
                rintro o w8 ⟨rfl, hb8⟩
                obtain ⟨w9, _, hk9, hb9, hst9⟩ := box_world w8 s zeroSec
                have HS9 := Lib.hid (HSJ.out.grow (below_then hb8 hb9))
                have HRG9 := Lib.hid (rangeAt_below HRG.out (below_then hb8 hb9) HSJ.out.last.lt)
                have HLT9 := Lib.hid HS9.out.last.lt
                obtain ⟨g12, hg12⟩ : ∃ g12, g12 = w8.heap.size := ⟨_, rfl⟩
                rw [← hg12] at hk9 hst9
                have HG12 := Lib.hid hg12
                have HK9 := Lib.hid hk9
                have HST9 := Lib.hid hst9
                clear hb8 hk9 hb9 hst9 hg12
                go_wp2_with (first
                  | (with_reducible show wpList _ _ _ (Oper.mk _ (Op.alloc 66) _ _ _ _ :: _) _ _; go_must (refine wpList_wrun (w' := w8.alloc (.cells (cellsS zeroSec).toArray 66)) rfl (.pointer (some ⟨w8.heap.size, 0, none⟩)) (Ph.run_alloc (z := .agg (cellsS zeroSec).toArray) rfl (z66 w8)) ?_; rw [← HG12.out]))
                  | (with_reducible show wpList _ _ _ (Oper.mk none (Op.store 66 _ _) _ _ _ _ :: _) _ _; go_must (refine wpList_done rfl w9 (Ph.run_store (X := .pointer (some ⟨g12, 0, none⟩)) (Y := .agg (cellsS s).toArray) rfl rfl rfl HST9.out) ?_)))
                refine wp_region_quiet_all (fun W => Below w9.heap.size w9 W) (by kernel_rfl) (by kernel_rfl) ((Below.refl _ w9).drew) ?_
                repeat (first | go_big_quiet_skip | (go_big_quiet_want; first
                  | (with_reducible show Oper.quiet _ (Oper.mk (some 111) _ _ _ _ _) _ _ _; refine quiet_call 43 #[.int .i64 0] (.int .i64 0) (fun W _ => by go_simp) (fun W hW => (num_any 0 W).mono fun e w' h => ⟨h.1, by rw [h.2]; exact hW⟩) ?_; go_frame; go_big_quiet_on)
                  | (with_reducible show Oper.quiet _ (Oper.mk (some 112) _ _ _ _ _) _ _ _; refine quiet_bin .neq 3 3 _ _ rfl (.int .i64 0) (.int .i64 0) (.bool false) rfl rfl (fun W _ => by kernel_rfl) (fun W _ => by kernel_rfl) ?_; go_frame; go_big_quiet_on)
                  | (with_reducible show Oper.quiet _ (Oper.mk (some 114) _ _ _ _ _) _ _ _; refine quiet_load_mid 66 (.tmp 12) rfl g12 0 rfl (cellsS s) _ (fun W hW => range0 (HK9.out.below hW HK9.out.lt)) Try.underlying66 rfl (by rw [cellsS_len]; exact info66) ?_; go_frame; go_big_quiet_on)
                  | (with_reducible show Oper.quiet _ (Oper.mk (some 116) _ _ _ _ _) _ _ _; refine quiet_value (.pointer (some ⟨g7, q * 32, none⟩)) (fun W _ => by go_simp) ?_; go_frame; go_big_quiet_on)
                  | (with_reducible show Oper.quiet _ (Oper.mk (some 117) _ _ _ _ _) _ _ _; refine quiet_load_mid 66 (.tmp 116) rfl g7 (q * 32) rfl (cellsS s) _ (fun W hW => rangeAt_below HRG9.out hW HLT9.out) Try.underlying66 rfl (by rw [cellsS_len]; exact info66) ?_; go_frame; go_big_quiet_on)
                  | (with_reducible show Oper.quiet _ (Oper.mk (some 118) _ _ _ _ _) _ _ _; refine quiet_bin .neq 66 66 _ _ rfl (.agg (cellsS s).toArray) (.agg (cellsS s).toArray) (.bool false) rfl rfl (fun W _ => guard_sec W _ _ _ _ _) (fun W _ => neq_sec W s) ?_; go_frame; go_big_quiet_on)
                  | (with_reducible show Oper.quiet _ (Oper.mk (some 119) _ _ _ _ _) _ _ _; refine quiet_value (.bool false) (fun W _ => Ph.run_pick_f rfl rfl rfl) ?_; go_frame; go_big_quiet_on)
                  | (go_big_quiet_op; go_big_quiet_on)))
                refine wpQuiet_nil ?_
                intro w10 hw10
                have HS10 := Lib.hid (HS9.out.grow hw10)
                clear hw10
                go_wp2_with fail
                exact ⟨⟨q + 1, by omega, by go_num, HS10⟩, by simp [intOf]; omega⟩
              · obtain rfl : q = sn := by omega
                go_wp2_with fail
                exact ⟨⟨k + 1, F1, L1, D1, by omega, by go_num, HSJ⟩, by simp [intOf]; omega⟩
          · obtain rfl : kd = 3 := by omega
            obtain ⟨bv, sv, wv, lv, hd⟩ := HS4.out.disk
            have CB := barrier_any hd (by rw [HS4.out.held.len]; exact hs1) (by have := HS4.out.held.nx; omega) (by have := HS4.out.held.ep; omega) (by have := HS4.out.held.log; omega)
            have HCB := Lib.hid CB
            clear hd CB
            go_wp2_with (first
              | (with_reducible show wpList _ _ _ (Oper.mk _ (Op.load 72 _) _ _ _ _ :: _) _ _; go_must (refine wpList_wrun rfl _ (Ph.run_load (X := .pointer (some ⟨bb, ob + k * 38, none⟩)) rfl rfl (ldA HRA.out)) ?_))
              | (with_reducible show wpList _ _ _ (Oper.mk _ (Op.alloc 72) _ _ _ _ :: _) _ _; go_must (refine wpList_wrun (w' := wr.alloc (.cells (cellsA zeroAc).toArray 72)) rfl (.pointer (some ⟨wr.heap.size, 0, none⟩)) (Ph.run_alloc (z := .agg (cellsA zeroAc).toArray) rfl (z72 wr)) ?_; rw [← HG9.out]))
              | (with_reducible show wpList _ _ _ (Oper.mk none (Op.store 72 _ _) _ _ _ _ :: _) _ _; go_must (refine wpList_done rfl w4 (Ph.run_store (X := .pointer (some ⟨g9, 0, none⟩)) (Y := .agg (cellsA a).toArray) rfl rfl rfl HST4.out) ?_)))
            refine HCB.out.mono ?_
            rintro o w5 ⟨rfl, ht⟩
            obtain ⟨F5, hS5, ho5⟩ := HS4.out.turned ht (held_barrier HS4.out.held).2
            have HK5 := Lib.hid (ho5.blk HK4.out HF9.out.1)
            have HSI := Lib.hid hS5
            clear c0 ht hS5 ho5
            have c0 := HC0.out _ HK5.out
            go_wp2_with fail
            go_loopw [11] (fun j wj => ∃ q : Nat, q ≤ sn ∧ j = .int .i64 q ∧ Hid (LawAt w sn (k + 1) g g7 F5 L1 D1.barrier.1 wj)) (fun j _ => sn - (intOf j).toNat)
            case atStart => exact ⟨0, by omega, rfl, HSI⟩
            case round =>
              obtain ⟨q, hq, rfl, HSJ⟩ := hrel
              by_cases hlq : q < sn
              · obtain ⟨bv, sv, wv, lv, hdj⟩ := HSJ.out.disk
                have hrd := read_any hdj (q : Int) (by rw [HSJ.out.held.len]; omega) (by have := HSJ.out.held.wait; omega)
                rw [HSJ.out.held.read q hlq] at hrd
                have hrg := HSJ.out.get (j := q) (by omega)
                obtain ⟨s, hs⟩ : ∃ s, s = L1.getD q zeroSec := ⟨_, rfl⟩
                simp only [← hs] at hrd hrg
                have HRD := Lib.hid hrd
                have HRG := Lib.hid hrg
                have hl4 : (q : Int) < (sn : Int) := by omega
                have hl5 : (q : Int) < 65 := by omega
                clear hdj hrd hrg hs
                go_wp2_with fail
                refine HRD.out.mono ?_
                rintro o w8 ⟨rfl, hb8⟩
                obtain ⟨w9, _, hk9, hb9, hst9⟩ := box_world w8 s zeroSec
                have HS9 := Lib.hid (HSJ.out.grow (below_then hb8 hb9))
                have HRG9 := Lib.hid (rangeAt_below HRG.out (below_then hb8 hb9) HSJ.out.last.lt)
                have HLT9 := Lib.hid HS9.out.last.lt
                obtain ⟨g12, hg12⟩ : ∃ g12, g12 = w8.heap.size := ⟨_, rfl⟩
                rw [← hg12] at hk9 hst9
                have HG12 := Lib.hid hg12
                have HK9 := Lib.hid hk9
                have HST9 := Lib.hid hst9
                clear hb8 hk9 hb9 hst9 hg12
                go_wp2_with (first
                  | (with_reducible show wpList _ _ _ (Oper.mk _ (Op.alloc 66) _ _ _ _ :: _) _ _; go_must (refine wpList_wrun (w' := w8.alloc (.cells (cellsS zeroSec).toArray 66)) rfl (.pointer (some ⟨w8.heap.size, 0, none⟩)) (Ph.run_alloc (z := .agg (cellsS zeroSec).toArray) rfl (z66 w8)) ?_; rw [← HG12.out]))
                  | (with_reducible show wpList _ _ _ (Oper.mk none (Op.store 66 _ _) _ _ _ _ :: _) _ _; go_must (refine wpList_done rfl w9 (Ph.run_store (X := .pointer (some ⟨g12, 0, none⟩)) (Y := .agg (cellsS s).toArray) rfl rfl rfl HST9.out) ?_)))
                refine wp_region_quiet_all (fun W => Below w9.heap.size w9 W) (by kernel_rfl) (by kernel_rfl) ((Below.refl _ w9).drew) ?_
                repeat (first | go_big_quiet_skip | (go_big_quiet_want; first
                  | (with_reducible show Oper.quiet _ (Oper.mk (some 111) _ _ _ _ _) _ _ _; refine quiet_call 43 #[.int .i64 0] (.int .i64 0) (fun W _ => by go_simp) (fun W hW => (num_any 0 W).mono fun e w' h => ⟨h.1, by rw [h.2]; exact hW⟩) ?_; go_frame; go_big_quiet_on)
                  | (with_reducible show Oper.quiet _ (Oper.mk (some 112) _ _ _ _ _) _ _ _; refine quiet_bin .neq 3 3 _ _ rfl (.int .i64 0) (.int .i64 0) (.bool false) rfl rfl (fun W _ => by kernel_rfl) (fun W _ => by kernel_rfl) ?_; go_frame; go_big_quiet_on)
                  | (with_reducible show Oper.quiet _ (Oper.mk (some 114) _ _ _ _ _) _ _ _; refine quiet_load_mid 66 (.tmp 12) rfl g12 0 rfl (cellsS s) _ (fun W hW => range0 (HK9.out.below hW HK9.out.lt)) Try.underlying66 rfl (by rw [cellsS_len]; exact info66) ?_; go_frame; go_big_quiet_on)
                  | (with_reducible show Oper.quiet _ (Oper.mk (some 116) _ _ _ _ _) _ _ _; refine quiet_value (.pointer (some ⟨g7, q * 32, none⟩)) (fun W _ => by go_simp) ?_; go_frame; go_big_quiet_on)
                  | (with_reducible show Oper.quiet _ (Oper.mk (some 117) _ _ _ _ _) _ _ _; refine quiet_load_mid 66 (.tmp 116) rfl g7 (q * 32) rfl (cellsS s) _ (fun W hW => rangeAt_below HRG9.out hW HLT9.out) Try.underlying66 rfl (by rw [cellsS_len]; exact info66) ?_; go_frame; go_big_quiet_on)
                  | (with_reducible show Oper.quiet _ (Oper.mk (some 118) _ _ _ _ _) _ _ _; refine quiet_bin .neq 66 66 _ _ rfl (.agg (cellsS s).toArray) (.agg (cellsS s).toArray) (.bool false) rfl rfl (fun W _ => guard_sec W _ _ _ _ _) (fun W _ => neq_sec W s) ?_; go_frame; go_big_quiet_on)
                  | (with_reducible show Oper.quiet _ (Oper.mk (some 119) _ _ _ _ _) _ _ _; refine quiet_value (.bool false) (fun W _ => Ph.run_pick_f rfl rfl rfl) ?_; go_frame; go_big_quiet_on)
                  | (go_big_quiet_op; go_big_quiet_on)))
                refine wpQuiet_nil ?_
                intro w10 hw10
                have HS10 := Lib.hid (HS9.out.grow hw10)
                clear hw10
                go_wp2_with fail
                exact ⟨⟨q + 1, by omega, by go_num, HS10⟩, by simp [intOf]; omega⟩
              · obtain rfl : q = sn := by omega
                go_wp2_with fail
                exact ⟨⟨k + 1, F5, L1, D1.barrier.1, by omega, by go_num, HSJ⟩, by simp [intOf]; omega⟩
        · obtain rfl : k = n := by omega
          go_wp2_with fail
          go_ret
          exact ⟨rfl, HS1.out.below⟩
end Go.Proofs.Ytikhhipgamllgaa
