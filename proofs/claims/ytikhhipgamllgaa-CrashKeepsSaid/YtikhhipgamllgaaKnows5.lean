/- flotsamlaw05.knows returns true. Conditions: none. Tags compared; sectors compared. Conditions: none. -/
import Derived.Test.YtikhhipgamllgaaNob
import Derived.Test.YtikhhipgamllgaaCr3
import Derived.Test.YtikhhipgamllgaaWrite
namespace Go.Proofs.Ytikhhipgamllgaa
open Go.RowKit
theorem eqlS (w : World) (s : Sec) : (binOp .eql 66 (.agg (cellsS s).toArray) (.agg (cellsS s).toArray)).run Try.prog w = .ok (.bool true) w := by
  rw [run_eql_struct, equalIn_sec w 9998 s]; rfl
def sec12 : Sec := ⟨.int .u8 1 :: .int .u8 2 :: List.replicate 30 (.int .u8 0), by simp, fun v hv => by
  rcases List.mem_cons.1 hv with rfl | hv
  · exact ⟨1, rfl⟩
  rcases List.mem_cons.1 hv with rfl | hv
  · exact ⟨2, rfl⟩
  exact ⟨0, (List.mem_replicate.1 hv).2⟩⟩
theorem mk12 (w : World) : (Instr.build 66 #[(0, .int .u8 1), (1, .int .u8 2)]).run Try.prog w = .ok (.agg (cellsS sec12).toArray) w := by kernel_rfl
theorem mkT11 (w : World) : (Instr.build 69 #[(0, .int .i64 1), (1, .int .i64 1)]).run Try.prog w = .ok (.agg (cellsT ⟨1, 1⟩).toArray) w := by kernel_rfl
theorem neq12 (w : World) : (binOp .neq 66 (.agg (cellsS zeroSec).toArray) (.agg (cellsS sec12).toArray)).run Try.prog w = .ok (.bool true) w := by kernel_rfl
theorem bld70 (t : Tg) (w : World) : (Instr.buildSlice 70 1 #[(0, .agg (cellsT t).toArray)]).run Try.prog w = .ok (.slice (some ⟨w.heap.size, 0, none⟩) 1 1) (w.alloc (.cells (cellsT t).toArray 69)) := by kernel_rfl
theorem ldSm {W : World} {b o : Nat} {s : Sec} (h : W.rangeAt b o (cellsS s)) : (Instr.loadAt 66 (.pointer (some ⟨b, o, none⟩))).run Try.prog W = .ok (.agg (cellsS s).toArray) W :=
  run_loadAt_mid W b o 66 (cellsS s) _ h Try.underlying66 rfl (by rw [cellsS_len]; exact info66)
theorem row_item {α : Type} {f : α → List Value} {size : Nat} (hf : ∀ x, (f x).length = size) {w : World} {base n k : Nat} {e : TypeId} {v : Value} {l : List α} {x : α} (h : w.ownsRow base e size v n (l.flatMap f)) (hl : l[k]? = some x) (hn : l.length = n) :
    ∃ b c, v = .slice (some ⟨b, 0, none⟩) n c ∧ w.rangeAt b (k * size) (f x) := by
  have hk : k < n := by rw [← hn]; exact (List.getElem?_eq_some_iff.1 hl).1
  rcases h.2 with ⟨_, h0⟩ | ⟨b, c, cur, rfl, _⟩
  · omega
  · refine ⟨b, c, rfl, own_range h (k * size) (f x) fun j u hj => ?_⟩
    rw [cat_get f size hf l k j x hl (by rw [← hf x]; exact (List.getElem?_eq_some_iff.1 hj).1)]
    exact hj
theorem ok11 : okT ⟨1, 1⟩ := ⟨by unfold okI; decide, by unfold okI; decide⟩
def kn1 (s : Sec) : Dk := ((Dk.fresh 4).write 3 s ⟨1, 1⟩).1
def kn2 (s : Sec) (A : Option Addr) (c : Nat) : Dk := (kn1 s).synced [⟨1, 1⟩] A c
theorem kn1_code (s : Sec) : ((Dk.fresh 4).write 3 s ⟨1, 1⟩).2 = 0 := rfl
theorem kn1_read (s : Sec) : (kn1 s).read 3 = (s, 0) := rfl
theorem kn1_safe (s : Sec) : (kn1 s).safe = [zeroSec, zeroSec, zeroSec, zeroSec] := rfl
theorem kn1_wait (s : Sec) : (kn1 s).wait = [⟨3, s, 1, 1, 0⟩] := rfl
theorem kn1_len (s : Sec) : (kn1 s).log.length = 1 ∧ (kn1 s).nx = 1 ∧ (kn1 s).fails = false := ⟨rfl, rfl, rfl⟩
theorem kn1_s0 (s : Sec) : 0 < (kn1 s).safe.length := by rw [kn1_safe]; decide
theorem kn1_s1 (s : Sec) : (kn1 s).safe.length ≤ 1000 := by rw [kn1_safe]; decide
theorem kn1_w1 (s : Sec) : (kn1 s).wait.length ≤ 1000 := by rw [kn1_wait]; simp
theorem kn1_okw (s : Sec) : ∀ x ∈ (kn1 s).wait, okW (kn1 s).safe.length x := fun x hx => by
  rw [kn1_wait] at hx
  obtain rfl := List.mem_singleton.1 hx
  exact ⟨rfl, ok11⟩
theorem kn2_safe (s : Sec) (A : Option Addr) (c : Nat) : (kn2 s A c).safe = [zeroSec, zeroSec, zeroSec, s] := rfl
theorem kn2_wait (s : Sec) (A : Option Addr) (c : Nat) : (kn2 s A c).wait = [] := rfl
theorem kn2_s0 (s : Sec) (A : Option Addr) (c : Nat) : 0 < (kn2 s A c).safe.length := by rw [kn2_safe]; simp
theorem kn2_s1 (s : Sec) (A : Option Addr) (c : Nat) : (kn2 s A c).safe.length ≤ 1000 := by rw [kn2_safe]; simp
theorem kn2_w1 (s : Sec) (A : Option Addr) (c : Nat) : (kn2 s A c).wait.length ≤ 1000 := by rw [kn2_wait]; simp
theorem kn2_log (s : Sec) (A : Option Addr) (c : Nat) : (kn2 s A c).log = [⟨1, ⟨3, s, 1, 1, 0⟩, [], none, 0⟩, ⟨2, zeroWr, [⟨1, 1⟩], A, c⟩] := rfl
theorem kn2_l1 (s : Sec) (A : Option Addr) (c : Nat) : (kn2 s A c).log.length ≤ 1000 := by rw [kn2_log]; simp
theorem kn2_t1 (s : Sec) (A : Option Addr) (c : Nat) : ∀ e ∈ (kn2 s A c).log, e.tags.length ≤ 1000 := fun e he => by
  rw [kn2_log] at he
  rcases List.mem_cons.1 he with rfl | he
  · simp
  · obtain rfl := List.mem_singleton.1 he
    simp
theorem box_world (w : World) (s s0 : Sec) : ∃ w', w.alloc (.cells (cellsS s).toArray 66) = w' ∧ Blk w' w.heap.size 66 (cellsS s).toArray ∧ Below w.heap.size w w' ∧ (Instr.storeAt 66 (.pointer (some ⟨w.heap.size, 0, none⟩)) (.agg (cellsS s).toArray)).run Try.prog (w.alloc (.cells (cellsS s0).toArray 66)) = .ok () w' :=
  ⟨_, rfl, Blk.new w 66 _, (Below.refl _ w).alloc (Nat.le_refl _) _, store66 w s s0⟩
set_option maxRecDepth 100000 in
set_option maxHeartbeats 8000000 in
theorem knows5_any (w : World) : Calls Try.prog 41 #[] w fun o w' => o = .returned (.bool true) ∧ Below w.heap.size w w' := by
  have CN : Hid (Calls Try.prog 42 #[.int .i64 4] w (GotDisk w (Dk.fresh 4))) := Lib.hid (new_any 4 (by omega) (by omega) w)
  obtain ⟨s, hs⟩ : ∃ s, s = sec12 := ⟨_, rfl⟩
  have hmk := mk12
  have hnq := neq12
  rw [← hs] at hmk hnq
  have HMK := Lib.hid hmk
  have HNQ := Lib.hid hnq
  clear hs hmk hnq
  obtain ⟨s0, hs0⟩ : ∃ s, s = zeroSec := ⟨_, rfl⟩
  have hz := z66
  rw [← hs0] at hz
  have HZ := Lib.hid hz
  clear hz
  go_enter Try.func41, Try.ntmps41
  go_wp2_with fail
  refine CN.out.mono ?_
  rintro o w1 ⟨g, F, rfl, hd1, hF1, hb1⟩
  obtain ⟨w2, hw2, hk2, hb2, hst2⟩ := box_world w1 s s0
  have hg3F : ¬ F w1.heap.size := fun h => absurd (hd1.lt _ h) (Nat.lt_irrefl _)
  obtain ⟨bv, sv, wv, lv, hd2⟩ := hd1.below hb2
  have CW := write_any hd2 (by decide) (by decide) (by decide) (by decide) 3 s ⟨1, 1⟩
  rw [kn1_code s] at CW
  have HCW := Lib.hid CW
  have HK2 := Lib.hid hk2
  have HST2 := Lib.hid hst2
  have HB2 := Lib.hid (below_then hb1 hb2)
  have HF1 : Hid (∀ k, F k → w.heap.size ≤ k) := Lib.hid hF1
  have HG3F := Lib.hid hg3F
  obtain ⟨g3, hg3⟩ : ∃ g3, g3 = w1.heap.size := ⟨_, rfl⟩
  have HG3 : Hid (w.heap.size ≤ g3 ∧ g3 < w2.heap.size) := Lib.hid ⟨by rw [hg3]; exact hb1.size, by rw [hg3]; exact hk2.lt⟩
  rw [← hg3] at HK2 HST2 HG3F
  have HGE := Lib.hid hg3
  clear hd1 hF1 hb1 hw2 hk2 hb2 hst2 hg3F hd2 CW CN hg3
  go_wp2_with (first
    | (with_reducible show wpList _ _ _ (Oper.mk _ (Op.build 66 _) _ _ _ _ :: _) _ _; go_must (refine wpList_wrun rfl _ (run_build2 (X := .int .u8 1) (Y := .int .u8 2) rfl rfl rfl (HMK.out _)) ?_))
    | (with_reducible show wpList _ _ _ (Oper.mk _ (Op.alloc 66) _ _ _ _ :: _) _ _; go_must (refine wpList_wrun (w' := w1.alloc (.cells (cellsS s0).toArray 66)) rfl (.pointer (some ⟨w1.heap.size, 0, none⟩)) (Ph.run_alloc (z := .agg (cellsS s0).toArray) rfl (HZ.out w1)) ?_; rw [← HGE.out]))
    | (with_reducible show wpList _ _ _ (Oper.mk none (Op.store 66 _ _) _ _ _ _ :: _) _ _; go_must (refine wpList_done rfl w2 (Ph.run_store (X := .pointer (some ⟨g3, 0, none⟩)) (Y := .agg (cellsS s).toArray) rfl rfl rfl HST2.out) ?_))
    | (with_reducible show wpList _ _ _ (Oper.mk _ (Op.load 66 _) _ _ _ _ :: _) _ _; go_must (refine wpList_wrun rfl _ (Ph.run_load (X := .pointer (some ⟨g3, 0, none⟩)) rfl rfl (ldS HK2.out)) ?_))
    | (with_reducible show wpList _ _ _ (Oper.mk _ (Op.build 69 _) _ _ _ _ :: _) _ _; go_must (refine wpList_wrun rfl _ (run_build2 (X := .int .i64 1) (Y := .int .i64 1) rfl rfl rfl (mkT11 _)) ?_)))
  refine HCW.out.mono ?_
  rintro o w3 ⟨rfl, F3, hd3, hw3, ho3⟩
  rw [show ((Dk.fresh 4).write 3 s ⟨1, 1⟩).1 = kn1 s from rfl] at hd3
  have hk3 := ho3.blk HK2.out HG3F.out
  have hg3F3 : ¬ F3 g3 := hw3.not HG3.out.2 HG3F.out
  have HF3 : Hid (∀ k, F3 k → w.heap.size ≤ k) := Lib.hid (hw3.base HB2.out.size HF1.out)
  have HB3 := Lib.hid (HB2.out.trans (ho3.below HB2.out.size HF1.out))
  obtain ⟨bv3, sv3, wv3, lv3, hd3⟩ := hd3
  have HRD : Hid (Calls Try.prog 50 #[.pointer (some ⟨g, 0, none⟩), .int .i64 3] w3 (ReadTo w3 (s, 0))) := Lib.hid (read_any hd3 3 (kn1_s0 s) (kn1_w1 s))
  have HD3 := Lib.hid hd3
  have HK3 := Lib.hid hk3
  have HG3F3 := Lib.hid hg3F3
  clear hd3 hk3 hw3 ho3 hg3F3
  go_wp2_with fail
  refine HRD.out.mono ?_
  rintro o w4 ⟨rfl, hb4⟩
  obtain ⟨w5, hw5, hk5, hb5, hst5⟩ := box_world w4 s s0
  have hb35 := below_then hb4 hb5
  have hd5 := HD3.out.below hb35
  have hsf := safe_any hd5 (kn1_s0 s) (kn1_s1 s)
  have HSF := Lib.hid hsf
  have HD5 := Lib.hid hd5
  have HK5 := Lib.hid hk5
  have HK35 := Lib.hid (HK3.out.below hb35 HK3.out.lt)
  have HST5 := Lib.hid hst5
  have HB5 := Lib.hid (below_then HB3.out hb35)
  obtain ⟨g5, hg5⟩ : ∃ g5, g5 = w4.heap.size := ⟨_, rfl⟩
  have HG5 : Hid (¬ F3 g5 ∧ g5 < w5.heap.size) := Lib.hid ⟨fun h => by have := HD3.out.lt _ h; have := hb4.size; omega, by rw [hg5]; exact hk5.lt⟩
  rw [← hg5] at HK5 HST5
  have HGE5 := Lib.hid hg5
  clear hb4 hw5 hk5 hb5 hst5 hb35 hd5 hsf hg5
  go_wp2_with (first
    | (with_reducible show wpList _ _ _ (Oper.mk _ (Op.alloc 66) _ _ _ _ :: _) _ _; go_must (refine wpList_wrun (w' := w4.alloc (.cells (cellsS s0).toArray 66)) rfl (.pointer (some ⟨w4.heap.size, 0, none⟩)) (Ph.run_alloc (z := .agg (cellsS s0).toArray) rfl (HZ.out w4)) ?_; rw [← HGE5.out]))
    | (with_reducible show wpList _ _ _ (Oper.mk none (Op.store 66 _ _) _ _ _ _ :: _) _ _; go_must (refine wpList_done rfl w5 (Ph.run_store (X := .pointer (some ⟨g5, 0, none⟩)) (Y := .agg (cellsS s).toArray) rfl rfl rfl HST5.out) ?_)))
  refine HSF.out.mono ?_
  rintro o w6 ⟨v6, rfl, ho6, hb6⟩
  obtain ⟨w7, hw7⟩ : ∃ w7, w6.alloc (.cells (cellsT ⟨1, 1⟩).toArray 69) = w7 := ⟨_, rfl⟩
  have hb7 : Below w6.heap.size w6 w7 := by rw [← hw7]; exact (Below.refl _ w6).alloc (Nat.le_refl _) _
  have hb57 := below_then hb6 hb7
  have hbl := bld70 ⟨1, 1⟩ w6
  have hlit : w7.ownsRow w6.heap.size 69 2 (.slice (some ⟨w6.heap.size, 0, none⟩) 1 1) 1 ([(⟨1, 1⟩ : Tg)].flatMap cellsT) := by
    rw [← hw7]
    exact World.ownsRow_lit w6 (cellsT ⟨1, 1⟩).toArray 1 (Nat.le_refl _) (by decide) rfl
  rw [hw7] at hbl
  have hd7 := HD5.out.below hb57
  have h6F : ¬ F3 w6.heap.size := fun h => by have := HD5.out.lt _ h; have := hb6.size; omega
  have hsy := sync_any hd7 (kn1_s0 s) (kn1_s1 s) (kn1_w1 s) (by rw [(kn1_len s).2.1]; decide) (by rw [(kn1_len s).1]; decide) (kn1_okw s) (some ⟨w6.heap.size, 0, none⟩) 1 [⟨1, 1⟩] (by decide) (fun t ht => by obtain rfl := List.mem_singleton.1 ht; exact ok11)
    (fun W hW => Reads.of_own (hW.own hlit (fun q hq hf => by
      have : w6.heap.size = q := by simpa [Value.ownBlock] using hq
      subst this
      exact h6F hf)))
  have HSY := Lib.hid hsy
  have HBL := Lib.hid hbl
  have HD7 := Lib.hid hd7
  have HO7 : Hid (w7.ownsRow w5.heap.size 66 32 v6 (kn1 s).safe.length ((kn1 s).safe.flatMap cellsS)) := Lib.hid ((OnlyF.of_below (F := fun _ => False) hb7).own ho6 (fun _ _ h => h))
  have HK37 := Lib.hid (HK35.out.below hb57 HK35.out.lt)
  have HK57 := Lib.hid (HK5.out.below hb57 HK5.out.lt)
  have HB7 := Lib.hid (below_then HB5.out hb57)
  have HV6 : Hid (∀ q, v6.ownBlock = some q → ¬ F3 q) := Lib.hid fun q hq hf => by
    have := (ho6.lt q hq).1
    have := HD5.out.lt q hf
    omega
  obtain ⟨A6, c6, rfl, _⟩ := own_slice ho6
  have e4 : (kn1 s).safe.length = 4 := rfl
  rw [e4] at HO7 HV6 ⊢
  clear ho6 hb6 hw7 hb7 hb57 hlit hd7 h6F hsy hbl e4
  go_wp2_with (first
    | (with_reducible show wpList _ _ _ (Oper.mk _ (Op.build 69 _) _ _ _ _ :: _) _ _; go_must (refine wpList_wrun rfl _ (run_build2 (X := .int .i64 1) (Y := .int .i64 1) rfl rfl rfl (mkT11 _)) ?_))
    | (with_reducible show wpList _ _ _ (Oper.mk _ (Op.buildSlice _ _ _) _ _ _ _ :: _) _ _; go_must (refine wpList_wrun rfl _ (run_bld1 (X := .agg (cellsT ⟨1, 1⟩).toArray) rfl rfl HBL.out) ?_)))
  refine HSY.out.mono ?_
  rintro o w8 (⟨hff, _⟩ | ⟨_, rfl, A8, c8, F8, hd8, hw8, ho8⟩)
  · rw [(kn1_len s).2.2] at hff; cases hff
  rw [show (kn1 s).synced [⟨1, 1⟩] A8 c8 = kn2 s A8 c8 from rfl] at hd8
  obtain ⟨bv8, sv8, wv8, lv8, hd8⟩ := hd8
  have HK38 := Lib.hid (ho8.blk HK37.out HG3F3.out)
  have HK58 := Lib.hid (ho8.blk HK57.out HG5.out.1)
  have HO8 := Lib.hid (ho8.own HO7.out HV6.out)
  have HB8 := Lib.hid (HB7.out.trans (ho8.below HB7.out.size HF3.out))
  have HSF8 := Lib.hid (safe_any hd8 (kn2_s0 s A8 c8) (kn2_s1 s A8 c8))
  have HD8 := Lib.hid hd8
  clear hd8 hw8 ho8
  go_wp2_with fail
  refine HSF8.out.mono ?_
  rintro o w9 ⟨v9, rfl, ho9, hb9⟩
  have hd9 := HD8.out.below hb9
  have HK39 := Lib.hid (HK38.out.below hb9 HK38.out.lt)
  have HK59 := Lib.hid (HK58.out.below hb9 HK58.out.lt)
  have HO9 := Lib.hid ((OnlyF.of_below (F := fun _ => False) hb9).own HO8.out (fun _ _ h => h))
  have HB9 := Lib.hid (below_then HB8.out hb9)
  obtain ⟨b6, c6', hv6, hi6⟩ := row_item cellsS_len (k := 3) (x := zeroSec) HO9.out rfl rfl
  obtain ⟨rfl, rfl⟩ : A6 = some ⟨b6, 0, none⟩ ∧ c6 = c6' := by simpa using hv6
  obtain ⟨b9, c9, hv9, hi9⟩ := row_item cellsS_len (k := 3) (x := s) ho9 rfl rfl
  subst hv9
  have HLT6 : Hid (b6 < w9.heap.size) := Lib.hid (HO9.out.lt b6 rfl).2
  have HLT9 : Hid (b9 < w9.heap.size) := Lib.hid (ho9.lt b9 rfl).2
  have HI6 := Lib.hid hi6
  have HI9 := Lib.hid hi9
  have HD9 := Lib.hid hd9
  have e4 : (kn2 s A8 c8).safe.length = 4 := rfl
  rw [e4]
  clear ho9 hb9 hd9 hi6 hi9 hv6 e4
  have HEQ : Hid (∀ W, (binOp .eql 66 (.agg (cellsS s).toArray) (.agg (cellsS s).toArray)).run Try.prog W = .ok (.bool true) W) := Lib.hid fun W => eqlS W s
  go_wp2_with fail
  refine wp_region_quiet_tail (fun W => Below w9.heap.size w9 W) 43 (by kernel_rfl) (by kernel_rfl) ((Below.refl _ w9).drew) ?_
  simp only [List.take_succ_cons, List.take_zero, List.drop_succ_cons, List.drop_zero]
  repeat (first | go_big_quiet_skip | (go_big_quiet_want; first
    | (with_reducible show Oper.quiet _ (Oper.mk _ (Op.call { callee := .value (.func 43), args := _, argTypes := _ }) _ _ _ _) _ _ _; (refine quiet_call 43 #[.int .i64 0] (.int .i64 0) (fun W _ => by go_simp) (fun W hW => (num_any 0 W).mono fun e w' h => ⟨h.1, by rw [h.2]; exact hW⟩) ?_; go_frame; go_big_quiet_on))
    | (with_reducible show Oper.quiet _ (Oper.mk _ (Op.load 66 (.tmp 5)) _ _ _ _) _ _ _; refine quiet_load_mid 66 (.tmp 5) rfl g5 0 rfl (cellsS s) _ (fun W hW => range0 (HK59.out.below hW HK59.out.lt)) Try.underlying66 rfl (by rw [cellsS_len]; exact info66) ?_; go_frame; go_big_quiet_on)
    | (with_reducible show Oper.quiet _ (Oper.mk _ (Op.load 66 (.tmp 3)) _ _ _ _) _ _ _; refine quiet_load_mid 66 (.tmp 3) rfl g3 0 rfl (cellsS s) _ (fun W hW => range0 (HK39.out.below hW HK39.out.lt)) Try.underlying66 rfl (by rw [cellsS_len]; exact info66) ?_; go_frame; go_big_quiet_on)
    | (with_reducible show Oper.quiet _ (Oper.mk _ (Op.load 66 (.tmp 56)) _ _ _ _) _ _ _; refine quiet_load_mid 66 (.tmp 56) rfl b6 96 rfl (cellsS zeroSec) _ (fun W hW => rangeAt_below HI6.out hW HLT6.out) Try.underlying66 rfl (by rw [cellsS_len]; exact info66) ?_; go_frame; go_big_quiet_on)
    | (with_reducible show Oper.quiet _ (Oper.mk _ (Op.load 66 (.tmp 68)) _ _ _ _) _ _ _; refine quiet_load_mid 66 (.tmp 68) rfl b9 96 rfl (cellsS s) _ (fun W hW => rangeAt_below HI9.out hW HLT9.out) Try.underlying66 rfl (by rw [cellsS_len]; exact info66) ?_; go_frame; go_big_quiet_on)
    | (with_reducible show Oper.quiet _ (Oper.mk _ (Op.binOp .eql 66 _ _ _) _ _ _ _) _ _ _; refine quiet_bin .eql 66 66 _ _ rfl (.agg (cellsS s).toArray) (.agg (cellsS s).toArray) (.bool true) rfl rfl (fun W _ => guard_sec W _ _ _ _ _) (fun W _ => HEQ.out W) ?_; go_frame; go_big_quiet_on)
    | (with_reducible show Oper.quiet _ (Oper.mk _ (Op.binOp .neq 66 _ _ _) _ _ _ _) _ _ _; refine quiet_bin .neq 66 66 _ _ rfl (.agg (cellsS zeroSec).toArray) (.agg (cellsS s).toArray) (.bool true) rfl rfl (fun W _ => guard_sec W _ _ _ _ _) (fun W _ => HNQ.out W) ?_; go_frame; go_big_quiet_on)
    | (with_reducible show Oper.quiet _ (Oper.mk _ (Op.binOp .add 3 _ _ _) _ _ _ _) _ _ _; refine quiet_bin .add 3 3 _ _ rfl (.int .i64 0) (.int .i64 0) (.int .i64 0) rfl rfl (fun W _ => by kernel_rfl) (fun W _ => by kernel_rfl) ?_; go_frame; go_big_quiet_on)
    | (with_reducible show Oper.quiet _ (Oper.mk (some 43) (Op.binOp .eql 3 _ _ _) _ _ _ _) _ _ _; refine quiet_bin .eql 3 3 _ _ rfl (.int .i64 0) (.int .i64 0) (.bool true) rfl rfl (fun W _ => by kernel_rfl) (fun W _ => by kernel_rfl) ?_; go_frame; go_big_quiet_on)
    | (with_reducible show Oper.quiet _ (Oper.mk _ (Op.binOp .eql 3 _ _ _) _ _ _ _) _ _ _; refine quiet_bin .eql 3 3 _ _ rfl (.int .i64 4) (.int .i64 4) (.bool true) rfl rfl (fun W _ => by kernel_rfl) (fun W _ => by kernel_rfl) ?_; go_frame; go_big_quiet_on)
    | (with_reducible show Oper.quiet _ (Oper.mk _ (Op.pick _ _ _) _ _ _ _) _ _ _; refine quiet_value (.bool true) (fun W _ => Ph.run_pick_t rfl rfl rfl) ?_; go_frame; go_big_quiet_on)
    | (with_reducible show Oper.quiet _ (Oper.mk _ (Op.call { callee := .builtin .len, args := _, argTypes := _ }) _ _ _ _) _ _ _; refine quiet_value (.int .i64 4) (fun W _ => Ph.run_len rfl rfl Try.underlying40) ?_; go_frame; go_big_quiet_on)
    | (with_reducible show Oper.quiet _ (Oper.mk (some 56) _ _ _ _ _) _ _ _; refine quiet_value (.pointer (some ⟨b6, 96, none⟩)) (fun W _ => by go_simp) ?_; go_frame; go_big_quiet_on)
    | (with_reducible show Oper.quiet _ (Oper.mk (some 68) _ _ _ _ _) _ _ _; refine quiet_value (.pointer (some ⟨b9, 96, none⟩)) (fun W _ => by go_simp) ?_; go_frame; go_big_quiet_on)
    | (go_big_quiet_op; go_big_quiet_on)))
  refine wpQuiet_nil ?_
  intro wx hwx
  have HBX := Lib.hid (below_then HB9.out hwx)
  have HDX := Lib.hid (HD9.out.below hwx)
  have HWT := Lib.hid (waiting_any HDX.out (kn2_s0 s A8 c8) (kn2_w1 s A8 c8))
  clear hwx
  go_wp2_with fail
  refine HWT.out.mono ?_
  rintro o w10 ⟨v10, rfl, ho10, hb10⟩
  obtain ⟨A10, c10, rfl, _⟩ := own_slice ho10
  have HLG := Lib.hid (log_any (HDX.out.below hb10) (kn2_s0 s A8 c8) (kn2_l1 s A8 c8) (kn2_t1 s A8 c8))
  have HB10 := Lib.hid (below_then HBX.out hb10)
  have e0 : (kn2 s A8 c8).wait.length = 0 := rfl
  rw [e0]
  clear ho10 hb10 e0
  go_wp2_with fail
  refine HLG.out.mono ?_
  rintro o w11 ⟨v11, fs, rfl, hL, hb11⟩
  obtain ⟨A11, c11, rfl, _⟩ := own_slice hL.row
  have HB11 := Lib.hid (below_then HB10.out hb11)
  have e2 : (kn2 s A8 c8).log.length = 2 := rfl
  rw [e2]
  clear hL hb11 e2
  go_wp2_with fail
  go_ret
  exact ⟨rfl, HB11.out⟩
end Go.Proofs.Ytikhhipgamllgaa
namespace Go.Proofs.Ytikhhipgamllgaa
open Go.RowKit
theorem eqlT (w : World) (t u : Tg) : (binOp .eql 69 (.agg (cellsT t).toArray) (.agg (cellsT u).toArray)).run Try.prog w = .ok (.bool (decide (t = u))) w := by
  obtain ⟨a, b⟩ := t
  obtain ⟨c, d⟩ := u
  simp only [cellsT]
  rw [run_eql_struct]
  go_simp
  by_cases h : a = c <;> by_cases h2 : b = d <;> simp [h, h2]
theorem guardT (w : World) (op : BinOp) (x y : Operand) (s t : Array Value) : (eqGuard op 69 x y (.agg s) (.agg t)).run Try.prog w = .ok () w := run_eqGuard_agg w op 69 x y s t (by kernel_rfl)
theorem eqItems_some (d : Nat) (xs ys : Array Value) : ∀ is : List Nat, (∀ i ∈ is, ∃ n m : Int, xs[i]? = some (.int .u8 n) ∧ ys[i]? = some (.int .u8 m)) → ∃ b, ∀ w, (Op.eqItems (d + 1) 5 1 xs ys is).run Try.prog w = .ok b w
  | [], _ => ⟨true, fun w => by simp [Op.eqItems]⟩
  | i :: is, h => by
    obtain ⟨n, m, hn, hm⟩ := h i (by simp)
    obtain ⟨b, hb⟩ := eqItems_some d xs ys is fun j hj => h j (by simp [hj])
    have hp : ∀ w : World, (part 5 xs (i * 1)).run Try.prog w = .ok (.int .u8 n) w := fun w => by
      rw [Nat.mul_one]
      simp [part, isAgg, run_underlying Try.underlying5, hn]
    have hq : ∀ w : World, (part 5 ys (i * 1)).run Try.prog w = .ok (.int .u8 m) w := fun w => by
      rw [Nat.mul_one]
      simp [part, isAgg, run_underlying Try.underlying5, hm]
    refine ⟨if n == m then b else false, fun w => ?_⟩
    simp only [Op.eqItems, Sem.run_bind, hp, hq, Result.andThen_ok, run_equalIn_int w d 5 .u8 .u8 n m Try.underlying5]
    cases n == m with
    | true => simp [hb]
    | false => simp
theorem equalIn_secs (d : Nat) (s t : Sec) : ∃ b, ∀ w, (Op.equalIn (d + 2) 66 (.agg (cellsS s).toArray) (.agg (cellsS t).toArray)).run Try.prog w = .ok b w := by
  obtain ⟨i5, h5⟩ := info5
  obtain ⟨b, hb⟩ := eqItems_some d (cellsS s).toArray (cellsS t).toArray (List.range 32) fun i hi => by
    have hi' : i < (cellsS s).length := by rw [cellsS_len]; simpa using hi
    have hj' : i < (cellsS t).length := by rw [cellsS_len]; simpa using hi
    obtain ⟨n, hn⟩ := s.2.2 _ (List.getElem_mem hi')
    obtain ⟨m, hm⟩ := t.2.2 _ (List.getElem_mem hj')
    exact ⟨n, m, by rw [List.getElem?_toArray, List.getElem?_eq_getElem hi']; exact congrArg some hn, by rw [List.getElem?_toArray, List.getElem?_eq_getElem hj']; exact congrArg some hm⟩
  refine ⟨b, fun w => ?_⟩
  rw [run_equalIn_array w (d + 1) _ _ Try.underlying66 h5]
  have hc : Try.prog.cellsOf 5 = 1 := by kernel_rfl
  rw [hc]
  exact hb w
/-- two sectors, compared: a Bool, and true where they are one -/
theorem eqlS2 (s t : Sec) : ∃ b, (∀ w, (binOp .eql 66 (.agg (cellsS s).toArray) (.agg (cellsS t).toArray)).run Try.prog w = .ok (.bool b) w) ∧ (s = t → b = true) := by
  obtain ⟨b, hb⟩ := equalIn_secs 9998 s t
  refine ⟨b, fun w => by rw [run_eql_struct, hb w]; rfl, fun e => ?_⟩
  subst e
  have h1 := hb default
  rw [equalIn_sec default 9998 s] at h1
  cases h1
  rfl
end Go.Proofs.Ytikhhipgamllgaa
