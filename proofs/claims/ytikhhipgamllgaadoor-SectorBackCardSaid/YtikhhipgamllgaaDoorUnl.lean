/- The reference's Unlike and the program's: the indices at which two lists of sectors differ; Ints; Same. Conditions: few sectors. -/
import Derived.Test.YtikhhipgamllgaaDoorSec
import Derived.Lib.MinMax
namespace Go.Proofs.YtikhhipgamllgaaDoor
open Go.RowKit
def iz (l : List Int) : List Value := l.map (.int .i64)
theorem iz_len (l : List Int) : (iz l).length = l.length := by simp [iz]
def unlB (l m : List Sec) (k : Nat) : Bool :=
  match l[k]?, m[k]? with
  | some x, some y => !decide (x = y)
  | _, _ => true
def unlN (l m : List Sec) : Nat → List Int
  | 0 => []
  | k + 1 => unlN l m k ++ (if unlB l m k then [(k : Int)] else [])
def unl (l m : List Sec) : List Int := unlN l m (max l.length m.length)
theorem unlN_le (l m : List Sec) : ∀ k, (unlN l m k).length ≤ k
  | 0 => by simp [unlN]
  | k + 1 => by
    have := unlN_le l m k
    unfold unlN
    split <;> simp <;> omega
theorem unlN_yes {l m : List Sec} {k : Nat} (h : unlB l m k = true) : iz (unlN l m k) ++ [.int .i64 k] = iz (unlN l m (k + 1)) ∧ (unlN l m k).length + 1 = (unlN l m (k + 1)).length := by
  simp [unlN, h, iz]
theorem unlN_no {l m : List Sec} {k : Nat} (h : unlB l m k = false) : unlN l m (k + 1) = unlN l m k := by
  simp [unlN, h]
theorem unlB_both {l m : List Sec} {k : Nat} {s t : Sec} (h : l[k]? = some s) (h' : m[k]? = some t) : unlB l m k = !decide (s = t) := by
  simp [unlB, h, h']
theorem unlB_left {l m : List Sec} {k : Nat} (h : m.length ≤ k) : unlB l m k = true := by
  have : m[k]? = none := List.getElem?_eq_none h
  unfold unlB; rw [this]; split <;> simp_all
theorem unlB_right {l m : List Sec} {k : Nat} (h : l.length ≤ k) : unlB l m k = true := by
  have : l[k]? = none := List.getElem?_eq_none h
  unfold unlB; rw [this]

set_option maxRecDepth 100000 in
set_option maxHeartbeats 1000000 in
theorem runlike_any (A A' : Option Addr) (c c' : Nat) (l m : List Sec) (w : World) (hn : l.length ≤ 1000) (hm : m.length ≤ 1000) (hr : Reads w w.heap.size 32 A l.length (l.flatMap cellsS)) (hr' : Reads w w.heap.size 32 A' m.length (m.flatMap cellsS)) :
    Calls Tryd.prog 13 #[.slice A l.length c, .slice A' m.length c'] w (GotRow w 3 1 (unl l m).length (iz (unl l m))) := by
  obtain ⟨n, hnn⟩ : ∃ n, n = l.length := ⟨_, rfl⟩
  obtain ⟨p, hpp⟩ : ∃ n, n = m.length := ⟨_, rfl⟩
  have HU : Hid (unl l m = unlN l m (max n p)) := Lib.hid (by rw [hnn, hpp]; rfl)
  have HN := Lib.hid hnn
  have HP := Lib.hid hpp
  have HR := Lib.hid hr
  have HR' := Lib.hid hr'
  rw [← hnn] at hn ⊢
  rw [← hpp] at hm ⊢
  clear hr hr' hnn hpp
  obtain ⟨i3, hi, hz0, hz1, hz2⟩ := info_parts info3'
  have HI := Lib.hid hi
  have HZ0 := Lib.hid hz0
  have HZ1 := Lib.hid hz1
  have HZ2 := Lib.hid hz2
  clear hi hz0 hz1 hz2
  go_enter Tryd.func13, Tryd.ntmps13
  go_wp2
  go_loopw [5, 6] (fun v i wr => ∃ k : Nat, k ≤ max n p ∧ i = .int .i64 k ∧ wr.ownsRow w.heap.size 3 1 v (unlN l m k).length (iz (unlN l m k)) ∧ Below w.heap.size w wr) (fun _ i _ => max n p - (intOf i).toNat)
  case atStart => exact ⟨0, by omega, rfl, World.ownsRow_nil _ _ _ _, Below.refl _ _⟩
  case round =>
    obtain ⟨k, hk, rfl, hown, hbel⟩ := hrel
    have hle := unlN_le l m k
    obtain ⟨q, hq⟩ : ∃ q, q = (unlN l m k).length := ⟨_, rfl⟩
    rw [← hq] at hown hle
    have HQ := Lib.hid hq
    clear hq
    have HO := Lib.hid hown
    have HB := Lib.hid hbel
    clear hown hbel
    by_cases hlt : k < n
    · have hl : k < l.length := by rw [← HN.out]; exact hlt
      by_cases hlt' : k < p
      · have hl' : k < m.length := by rw [← HP.out]; exact hlt'
        obtain ⟨b, o, rfl, hb, hit⟩ := (HR.out.below HB.out).item (f := cellsS) cellsS_len (by omega) hl
        obtain ⟨b', o', rfl, hb', hit'⟩ := (HR'.out.below HB.out).item (f := cellsS) cellsS_len (by omega) hl'
        have HI1 := Lib.hid (hit k _ (List.getElem?_eq_getElem hl))
        have HI2 := Lib.hid (hit' k _ (List.getElem?_eq_getElem hl'))
        have HBB := Lib.hid (unlB_both (List.getElem?_eq_getElem hl) (List.getElem?_eq_getElem hl'))
        obtain ⟨s, hs⟩ : ∃ s, l[k] = s := ⟨_, rfl⟩
        obtain ⟨t, ht⟩ : ∃ s, m[k] = s := ⟨_, rfl⟩
        rw [hs] at HI1 HBB
        rw [ht] at HI2 HBB
        obtain ⟨D, hD⟩ : ∃ D, D = decide (s = t) := ⟨_, rfl⟩
        have HD := Lib.hid hD
        rw [← hD] at HBB
        have hge : decide (n ≤ k) = false := by simp; omega
        have hge' : decide (p ≤ k) = false := by simp; omega
        clear hit hit' hs hl ht hl' hD
        go_wp2
        refine wp_region_quiet_lit (by kernel_rfl) (by kernel_rfl) ?_
        repeat (first | go_big_quiet_skip | (go_big_quiet_want; first | (with_reducible show Oper.quiet _ (Oper.mk _ (Op.load 34 (.tmp 32)) _ _ _ _) _ _ _; (refine quiet_load_mid 34 (.tmp 32) rfl b (o + k * 32) rfl (cellsS s) _ (fun W hW => hW.elim fun j hj => by subst hj; exact range_drewN HI1.out) Tryd.underlying34 rfl (by rw [cellsS_len]; exact info34) ?_; go_frame; go_big_quiet_on)) | (with_reducible show Oper.quiet _ (Oper.mk _ (Op.load 34 (.tmp 36)) _ _ _ _) _ _ _; refine quiet_load_mid 34 (.tmp 36) rfl b' (o' + k * 32) rfl (cellsS t) _ (fun W hW => hW.elim fun j hj => by subst hj; exact range_drewN HI2.out) Tryd.underlying34 rfl (by rw [cellsS_len]; exact info34) ?_; go_frame; go_big_quiet_on) | (with_reducible show Oper.quiet _ (Oper.mk _ (Op.binOp BinOp.neq 34 _ _ _) _ _ _ _) _ _ _; (refine quiet_bin .neq 34 34 (.tmp 33) (.tmp 37) rfl (.agg (cellsS s).toArray) (.agg (cellsS t).toArray) (.bool (!D)) rfl rfl (fun W _ => guard_sec W _ _ _ _ _) (fun W _ => by rw [HD.out]; exact neq_sec W s t) ?_; go_frame; go_big_quiet_on)) | (go_big_quiet_op; go_big_quiet_on)))
        refine wpQuiet_nil ?_
        rintro _ ⟨nq, rfl⟩
        cases D with
        | true =>
          go_wp2
          have e := unlN_no (l := l) (m := m) (k := k) HBB.out
          refine ⟨⟨k + 1, by omega, by go_num, ?_, ?_⟩, by simp [intOf]; omega⟩
          · rw [e, ← HQ.out]; exact HO.out
          · exact below_drewN (n := nq) HB.out
        | false =>
          go_wp2_with ((at_builtin; refine wpList_append_own _ rfl _ _ 30 rfl w.heap.size 3 i3 (.int .i64 0) 1 8 Tryd.underlying30 HI.out HZ0.out HZ1.out HZ2.out rfl (by decide) u5 q _ rfl (HO.out.alloc _) ⟨wr.heap.size, 0, none⟩ 1 1 [.int .i64 k] rfl rfl (cell_one_new _ _ _) (by simp [Value.oneCell']) (by unfold maxLen; omega) (by omega) (by have := HB.out.size; simp; omega) ?_; intro v2 w2 hown2 hgrow2 _))
          obtain ⟨e1, e2⟩ := unlN_yes (l := l) (m := m) (k := k) HBB.out
          refine ⟨⟨k + 1, by omega, by go_num, ?_, ?_⟩, by simp [intOf]; omega⟩
          · rw [← e1, ← e2, ← HQ.out]; exact hown2
          · exact ((below_drewN (n := nq) HB.out).alloc HB.out.size _).grown hgrow2 (by have := HB.out.size; simp; omega) (fun g hg => (HO.out.lt g hg).1)
      · have hge : decide (n ≤ k) = false := by simp; omega
        have hge' : decide (p ≤ k) = true := by simp; omega
        have HBB := Lib.hid (unlB_left (l := l) (m := m) (k := k) (by rw [← HP.out]; omega))
        go_wp2
        refine wp_region_quiet_lit (by kernel_rfl) (by kernel_rfl) ?_
        repeat (first | go_big_quiet_skip | (go_big_quiet_want; (go_big_quiet_op; go_big_quiet_on)))
        refine wpQuiet_nil ?_
        rintro _ ⟨nq, rfl⟩
        go_wp2_with ((at_builtin; refine wpList_append_own _ rfl _ _ 30 rfl w.heap.size 3 i3 (.int .i64 0) 1 8 Tryd.underlying30 HI.out HZ0.out HZ1.out HZ2.out rfl (by decide) u5 q _ rfl (HO.out.alloc _) ⟨wr.heap.size, 0, none⟩ 1 1 [.int .i64 k] rfl rfl (cell_one_new _ _ _) (by simp [Value.oneCell']) (by unfold maxLen; omega) (by omega) (by have := HB.out.size; simp; omega) ?_; intro v2 w2 hown2 hgrow2 _))
        obtain ⟨e1, e2⟩ := unlN_yes (l := l) (m := m) (k := k) HBB.out
        refine ⟨⟨k + 1, by omega, by go_num, ?_, ?_⟩, by simp [intOf]; omega⟩
        · rw [← e1, ← e2, ← HQ.out]; exact hown2
        · exact ((below_drewN (n := nq) HB.out).alloc HB.out.size _).grown hgrow2 (by have := HB.out.size; simp; omega) (fun g hg => (HO.out.lt g hg).1)
    · by_cases hlt' : k < p
      · have hge : decide (n ≤ k) = true := by simp; omega
        have HBB := Lib.hid (unlB_right (l := l) (m := m) (k := k) (by rw [← HN.out]; omega))
        go_wp2
        refine wp_region_quiet_lit (by kernel_rfl) (by kernel_rfl) ?_
        repeat (first | go_big_quiet_skip | (go_big_quiet_want; (go_big_quiet_op; go_big_quiet_on)))
        refine wpQuiet_nil ?_
        rintro _ ⟨nq, rfl⟩
        go_wp2_with ((at_builtin; refine wpList_append_own _ rfl _ _ 30 rfl w.heap.size 3 i3 (.int .i64 0) 1 8 Tryd.underlying30 HI.out HZ0.out HZ1.out HZ2.out rfl (by decide) u5 q _ rfl (HO.out.alloc _) ⟨wr.heap.size, 0, none⟩ 1 1 [.int .i64 k] rfl rfl (cell_one_new _ _ _) (by simp [Value.oneCell']) (by unfold maxLen; omega) (by omega) (by have := HB.out.size; simp; omega) ?_; intro v2 w2 hown2 hgrow2 _))
        obtain ⟨e1, e2⟩ := unlN_yes (l := l) (m := m) (k := k) HBB.out
        refine ⟨⟨k + 1, by omega, by go_num, ?_, ?_⟩, by simp [intOf]; omega⟩
        · rw [← e1, ← e2, ← HQ.out]; exact hown2
        · exact ((below_drewN (n := nq) HB.out).alloc HB.out.size _).grown hgrow2 (by have := HB.out.size; simp; omega) (fun g hg => (HO.out.lt g hg).1)
      · obtain rfl : k = max n p := by omega
        go_wp2
        go_ret
        refine ⟨_, rfl, ?_, HB.out⟩
        have := HO.out
        rw [HU.out, ← HQ.out]
        exact this
set_option maxRecDepth 100000 in
set_option maxHeartbeats 1000000 in
theorem unlike_any (A A' : Option Addr) (c c' : Nat) (l m : List Sec) (w : World) (hn : l.length ≤ 1000) (hm : m.length ≤ 1000) (hr : Reads w w.heap.size 32 A l.length (l.flatMap cellsS)) (hr' : Reads w w.heap.size 32 A' m.length (m.flatMap cellsS)) :
    Calls Tryd.prog 12 #[.slice A l.length c, .slice A' m.length c'] w (GotRow w 3 1 (unl l m).length (iz (unl l m))) := by
  obtain ⟨n, hnn⟩ : ∃ n, n = l.length := ⟨_, rfl⟩
  obtain ⟨p, hpp⟩ : ∃ n, n = m.length := ⟨_, rfl⟩
  have HU : Hid (unl l m = unlN l m (max n p)) := Lib.hid (by rw [hnn, hpp]; rfl)
  have HN := Lib.hid hnn
  have HP := Lib.hid hpp
  have HR := Lib.hid hr
  have HR' := Lib.hid hr'
  rw [← hnn] at hn ⊢
  rw [← hpp] at hm ⊢
  clear hr hr' hnn hpp
  obtain ⟨i3, hi, hz0, hz1, hz2⟩ := info_parts info3'
  have HI := Lib.hid hi
  have HZ0 := Lib.hid hz0
  have HZ1 := Lib.hid hz1
  have HZ2 := Lib.hid hz2
  clear hi hz0 hz1 hz2
  go_enter Tryd.func12, Tryd.ntmps12
  go_wp2
  obtain ⟨M, hM⟩ : ∃ M, M = max n p := ⟨_, rfl⟩
  obtain ⟨N, hN⟩ : ∃ N, N = min n p := ⟨_, rfl⟩
  have e1 : max (n : Int) (p : Int) = (M : Int) := by omega
  have e2 : min (n : Int) (p : Int) = (N : Int) := by omega
  rw [e1, e2]
  have HM := Lib.hid hM
  have HN2 := Lib.hid hN
  clear e1 e2 hM hN
  go_loopw [5, 18] (fun v i wr => ∃ k : Nat, k ≤ M ∧ i = .int .i64 k ∧ wr.ownsRow w.heap.size 3 1 v (unlN l m k).length (iz (unlN l m k)) ∧ Below w.heap.size w wr) (fun _ i _ => M - (intOf i).toNat)
  case atStart => exact ⟨0, Nat.zero_le _, rfl, World.ownsRow_nil _ _ _ _, Below.refl _ _⟩
  case round =>
    obtain ⟨k, hk, rfl, hown, hbel⟩ := hrel
    have hle := unlN_le l m k
    obtain ⟨q, hq⟩ : ∃ q, q = (unlN l m k).length := ⟨_, rfl⟩
    rw [← hq] at hown hle
    have HQ := Lib.hid hq
    clear hq
    have HO := Lib.hid hown
    have HB := Lib.hid hbel
    clear hown hbel
    by_cases hlt : k < n
    · have hl : k < l.length := by rw [← HN.out]; exact hlt
      by_cases hlt' : k < p
      · have hl' : k < m.length := by rw [← HP.out]; exact hlt'
        obtain ⟨b, o, rfl, hb, hit⟩ := (HR.out.below HB.out).item (f := cellsS) cellsS_len (by omega) hl
        obtain ⟨b', o', rfl, hb', hit'⟩ := (HR'.out.below HB.out).item (f := cellsS) cellsS_len (by omega) hl'
        have HI1 := Lib.hid (hit k _ (List.getElem?_eq_getElem hl))
        have HI2 := Lib.hid (hit' k _ (List.getElem?_eq_getElem hl'))
        have HBB := Lib.hid (unlB_both (List.getElem?_eq_getElem hl) (List.getElem?_eq_getElem hl'))
        obtain ⟨s, hs⟩ : ∃ s, l[k] = s := ⟨_, rfl⟩
        obtain ⟨t, ht⟩ : ∃ s, m[k] = s := ⟨_, rfl⟩
        rw [hs] at HI1 HBB
        rw [ht] at HI2 HBB
        obtain ⟨D, hD⟩ : ∃ D, D = decide (s = t) := ⟨_, rfl⟩
        have HD := Lib.hid hD
        rw [← hD] at HBB
        have hge : decide (k < M) = true := by have := HM.out; have := HN2.out; simp; omega
        have hge' : decide (N ≤ k) = false := by have := HM.out; have := HN2.out; simp; omega
        clear hit hit' hs hl ht hl' hD
        go_wp2
        refine wp_region_quiet_lit (by kernel_rfl) (by kernel_rfl) ?_
        repeat (first | go_big_quiet_skip | (go_big_quiet_want; first | (with_reducible show Oper.quiet _ (Oper.mk _ (Op.load 34 (.tmp 27)) _ _ _ _) _ _ _; (refine quiet_load_mid 34 (.tmp 27) rfl b (o + k * 32) rfl (cellsS s) _ (fun W hW => hW.elim fun j hj => by subst hj; exact range_drewN HI1.out) Tryd.underlying34 rfl (by rw [cellsS_len]; exact info34) ?_; go_frame; go_big_quiet_on)) | (with_reducible show Oper.quiet _ (Oper.mk _ (Op.load 34 (.tmp 31)) _ _ _ _) _ _ _; refine quiet_load_mid 34 (.tmp 31) rfl b' (o' + k * 32) rfl (cellsS t) _ (fun W hW => hW.elim fun j hj => by subst hj; exact range_drewN HI2.out) Tryd.underlying34 rfl (by rw [cellsS_len]; exact info34) ?_; go_frame; go_big_quiet_on) | (with_reducible show Oper.quiet _ (Oper.mk _ (Op.binOp BinOp.neq 34 _ _ _) _ _ _ _) _ _ _; (refine quiet_bin .neq 34 34 (.tmp 28) (.tmp 32) rfl (.agg (cellsS s).toArray) (.agg (cellsS t).toArray) (.bool (!D)) rfl rfl (fun W _ => guard_sec W _ _ _ _ _) (fun W _ => by rw [HD.out]; exact neq_sec W s t) ?_; go_frame; go_big_quiet_on)) | (go_big_quiet_op; go_big_quiet_on)))
        refine wpQuiet_nil ?_
        rintro _ ⟨nq, rfl⟩
        cases D with
        | true =>
          go_wp2
          have e := unlN_no (l := l) (m := m) (k := k) HBB.out
          refine ⟨⟨k + 1, by have := HM.out; omega, by go_num, ?_, ?_⟩, by have := HM.out; simp [intOf]; omega⟩
          · rw [e, ← HQ.out]; exact HO.out
          · exact below_drewN (n := nq) HB.out
        | false =>
          go_wp2_with ((at_builtin; refine wpList_append_own _ rfl _ _ 30 rfl w.heap.size 3 i3 (.int .i64 0) 1 8 Tryd.underlying30 HI.out HZ0.out HZ1.out HZ2.out rfl (by decide) u5 q _ rfl (HO.out.alloc _) ⟨wr.heap.size, 0, none⟩ 1 1 [.int .i64 k] rfl rfl (cell_one_new _ _ _) (by simp [Value.oneCell']) (by unfold maxLen; omega) (by omega) (by have := HB.out.size; simp; omega) ?_; intro v2 w2 hown2 hgrow2 _))
          obtain ⟨e1, e2⟩ := unlN_yes (l := l) (m := m) (k := k) HBB.out
          refine ⟨⟨k + 1, by have := HM.out; omega, by go_num, ?_, ?_⟩, by have := HM.out; simp [intOf]; omega⟩
          · rw [← e1, ← e2, ← HQ.out]; exact hown2
          · exact ((below_drewN (n := nq) HB.out).alloc HB.out.size _).grown hgrow2 (by have := HB.out.size; simp; omega) (fun g hg => (HO.out.lt g hg).1)
      · have hge : decide (k < M) = true := by have := HM.out; have := HN2.out; simp; omega
        have hge' : decide (N ≤ k) = true := by have := HM.out; have := HN2.out; simp; omega
        have HBB := Lib.hid (unlB_left (l := l) (m := m) (k := k) (by rw [← HP.out]; omega))
        go_wp2
        refine wp_region_quiet_lit (by kernel_rfl) (by kernel_rfl) ?_
        repeat (first | go_big_quiet_skip | (go_big_quiet_want; (go_big_quiet_op; go_big_quiet_on)))
        refine wpQuiet_nil ?_
        rintro _ ⟨nq, rfl⟩
        go_wp2_with ((at_builtin; refine wpList_append_own _ rfl _ _ 30 rfl w.heap.size 3 i3 (.int .i64 0) 1 8 Tryd.underlying30 HI.out HZ0.out HZ1.out HZ2.out rfl (by decide) u5 q _ rfl (HO.out.alloc _) ⟨wr.heap.size, 0, none⟩ 1 1 [.int .i64 k] rfl rfl (cell_one_new _ _ _) (by simp [Value.oneCell']) (by unfold maxLen; omega) (by omega) (by have := HB.out.size; simp; omega) ?_; intro v2 w2 hown2 hgrow2 _))
        obtain ⟨e1, e2⟩ := unlN_yes (l := l) (m := m) (k := k) HBB.out
        refine ⟨⟨k + 1, by have := HM.out; omega, by go_num, ?_, ?_⟩, by have := HM.out; simp [intOf]; omega⟩
        · rw [← e1, ← e2, ← HQ.out]; exact hown2
        · exact ((below_drewN (n := nq) HB.out).alloc HB.out.size _).grown hgrow2 (by have := HB.out.size; simp; omega) (fun g hg => (HO.out.lt g hg).1)
    · by_cases hlt' : k < p
      · have hge : decide (k < M) = true := by have := HM.out; have := HN2.out; simp; omega
        have hge' : decide (N ≤ k) = true := by have := HM.out; have := HN2.out; simp; omega
        have HBB := Lib.hid (unlB_right (l := l) (m := m) (k := k) (by rw [← HN.out]; omega))
        go_wp2
        refine wp_region_quiet_lit (by kernel_rfl) (by kernel_rfl) ?_
        repeat (first | go_big_quiet_skip | (go_big_quiet_want; (go_big_quiet_op; go_big_quiet_on)))
        refine wpQuiet_nil ?_
        rintro _ ⟨nq, rfl⟩
        go_wp2_with ((at_builtin; refine wpList_append_own _ rfl _ _ 30 rfl w.heap.size 3 i3 (.int .i64 0) 1 8 Tryd.underlying30 HI.out HZ0.out HZ1.out HZ2.out rfl (by decide) u5 q _ rfl (HO.out.alloc _) ⟨wr.heap.size, 0, none⟩ 1 1 [.int .i64 k] rfl rfl (cell_one_new _ _ _) (by simp [Value.oneCell']) (by unfold maxLen; omega) (by omega) (by have := HB.out.size; simp; omega) ?_; intro v2 w2 hown2 hgrow2 _))
        obtain ⟨e1, e2⟩ := unlN_yes (l := l) (m := m) (k := k) HBB.out
        refine ⟨⟨k + 1, by have := HM.out; omega, by go_num, ?_, ?_⟩, by have := HM.out; simp [intOf]; omega⟩
        · rw [← e1, ← e2, ← HQ.out]; exact hown2
        · exact ((below_drewN (n := nq) HB.out).alloc HB.out.size _).grown hgrow2 (by have := HB.out.size; simp; omega) (fun g hg => (HO.out.lt g hg).1)
      · obtain rfl : k = M := by have := HM.out; omega
        go_wp2
        go_ret
        refine ⟨_, rfl, ?_, HB.out⟩
        have := HO.out
        rw [HU.out, ← HM.out, ← HQ.out]
        exact this
end Go.Proofs.YtikhhipgamllgaaDoor
