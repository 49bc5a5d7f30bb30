/- sector.Torn and the reference's: the first half of the one, the second of the other. Conditions: none. -/
import Derived.Test.YtikhhipgamllgaaCr1
import Derived.Test.YtikhhipgamllgaaTail
namespace Go.Proofs.Ytikhhipgamllgaa
open Go.RowKit
def tornS (x y : Sec) : Sec := ⟨y.1.take 16 ++ x.1.drop 16, by
  have h1 := x.2.1
  have h2 := y.2.1
  refine ⟨by simp [h1, h2], fun v hv => ?_⟩
  rcases List.mem_append.1 hv with h | h
  · exact y.2.2 v (List.mem_of_mem_take h)
  · exact x.2.2 v (List.mem_of_mem_drop h)⟩
theorem tornS_spl (x y : Sec) : cellsS (tornS x y) = spl (cellsS x) 0 ((cellsS y).take 16) := by
  have h2 := y.2.1
  simp [cellsS, tornS, spl, h2]
theorem take_part {l : List Value} {n : Nat} : ∀ j v, (l.take n)[j]? = some v → l.toArray[0 + j]? = some v := fun j v h => by
  rw [List.getElem?_take] at h
  rw [Nat.zero_add]
  split at h
  · simpa using h
  · cases h
theorem some_ne {a b : Nat} (h : a ≠ b) : some a ≠ some b := fun e => h (Option.some.inj e)
theorem row_le {B g : Nat} (h : B ≤ g) : ∀ k, some g = some k → B ≤ k := fun k e => by cases e; exact h
theorem spl_full {l vs : List Value} (h : l.length = vs.length) : spl l 0 vs = vs := by
  unfold spl
  rw [List.take_zero, List.nil_append, List.drop_of_length_le (by omega), List.append_nil]
theorem drewN_blk {w : World} {g n : Nat} {t : TypeId} {cs : Array Value} (h : Blk w g t cs) : Blk (w.drewN n) g t cs := h
theorem below_drewN {w w' : World} {B n : Nat} (h : Below B w w') : Below B w (w'.drewN n) := ⟨h.os, h.tape, h.output, h.size, h.block⟩
set_option maxHeartbeats 1000000 in
theorem torn_any (x y : Sec) (w : World) : Calls Try.prog 81 #[.agg (cellsS x).toArray, .agg (cellsS y).toArray] w fun o w' => o = .returned (.agg (cellsS (tornS x y)).toArray) ∧ Below w.heap.size w w' := by
  obtain ⟨z, hz, hzs⟩ := zero66
  have HZ := Lib.hid hz
  have HZS := Lib.hid hzs
  clear hz hzs
  go_enter Try.func81, Try.ntmps81
  go_wp2_with (with_reducible show wpList _ _ _ (Oper.mk _ (Op.alloc 66) _ _ _ _ :: _) _ _; refine wpList_alloc_any rfl 66 rfl z HZ.out ?_)
  go_frame
  simp only [World.size_alloc]
  obtain ⟨w3, h3⟩ : ∃ w3, ((w.alloc (.cells (cellsS x).toArray 66)).alloc (.cells (cellsS y).toArray 66)).alloc (.cells z 66) = w3 := ⟨_, rfl⟩
  have hb0 : Below w.heap.size w w3 := by rw [← h3]; exact (((Below.refl _ w).alloc (Nat.le_refl _) _).alloc (by simp) _).alloc (by simp; omega) _
  have hx : Blk w3 w.heap.size 66 (cellsS x).toArray := by rw [← h3]; exact ((Blk.new w 66 _).alloc _).alloc _
  have hy : Blk w3 (w.heap.size + 1) 66 (cellsS y).toArray := by
    rw [← h3]; have := (Blk.new (w.alloc (.cells (cellsS x).toArray 66)) 66 (cellsS y).toArray).alloc (.cells z 66); simpa using this
  have hz3 : Blk w3 (w.heap.size + 1 + 1) 66 z := by
    rw [← h3]; have := Blk.new ((w.alloc (.cells (cellsS x).toArray 66)).alloc (.cells (cellsS y).toArray 66)) 66 z; simpa using this
  rw [h3]
  have H3 := Lib.hid hb0
  have HX := Lib.hid hx
  have HY := Lib.hid hy
  have HZ3 := Lib.hid hz3
  clear h3 hb0 hx hy hz3
  refine wp_region_quiet_tail (fun W => ∃ n, W = w3.drewN n) 2 (by kernel_rfl) (by kernel_rfl) ⟨1, rfl⟩ ?_
  simp only [List.take_succ_cons, List.take_zero, List.drop_succ_cons, List.drop_zero]
  repeat (go_big_quiet_step (fail))
  refine wpQuiet_nil ?_
  rintro w' ⟨n, rfl⟩
  have hsz := H3.out.size
  go_wp2_with (first | (with_reducible show wpList _ _ _ (Oper.mk (some 7) _ _ _ _ _ :: _) _ _; go_must (refine wpList_copy_blk rfl (.tmp 5) (.tmp 6) 116 116 rfl 5 Try.underlying116 (by kernel_rfl) w.heap.size 0 16 32 (w.heap.size + 1) 0 32 32 rfl rfl (cellsS x) 66 (drewN_blk HX.out) ((cellsS y).take 16) (by rw [List.length_take, cellsS_len]; decide) ((drewN_blk HY.out).range 0 _ take_part) (by rw [List.length_take, cellsS_len, cellsS_len]; omega) (fun v hv => cellsS_one y v (List.mem_of_mem_take hv)) ?_); go_must (intro w4 hb4 hg4 hs4; have HX4 : Hid (Blk w4 w.heap.size 66 (cellsS (tornS x y)).toArray) := Lib.hid (by rw [tornS_spl]; exact hb4); have HZ4 := Lib.hid ((drewN_blk HZ3.out).grown hg4 (some_ne (by omega))); have HB4 := Lib.hid ((below_drewN (n := n) H3.out).grown hg4 (below_drewN (n := n) H3.out).size (row_le (Nat.le_refl _))); clear hb4 hg4 hs4)) | (with_reducible show wpList _ _ _ (Oper.mk (some 8) _ _ _ _ _ :: _) _ _; go_must (refine wpList_load_mid rfl 66 (.tmp 2) rfl w.heap.size 0 rfl (cellsS (tornS x y)) _ (HX4.out.range 0 _ (fun j v hj => by rw [Nat.zero_add]; simpa using hj)) Try.underlying66 rfl (by rw [cellsS_len]; exact info66) ?_)) | (with_reducible show wpList _ _ _ (Oper.mk none (Op.store 66 _ _) _ _ _ _ :: _) _ _; go_must (refine wpList_store_blk rfl 66 (.tmp 4) (.tmp 8) rfl (w.heap.size + 1 + 1) 0 (cellsS (tornS x y)) rfl rfl 66 z HZ4.out (by rw [cellsS_len, HZS.out]; decide) (by rw [cellsS_len]; exact info66) (cellsS_one _) ?_); intro w5 hb5 hg5 hs5))
  rw [spl_full (by rw [cellsS_len]; exact HZS.out)] at hb5
  go_frame
  exact bodyPost_ret (results_cell_row (P := Try.prog) rfl _ w5 (w.heap.size + 1 + 1) 66 _ (0, 0) _ rfl hb5 Try.underlying66 rfl (by rw [List.size_toArray, cellsS_len]; exact info66)) rfl ⟨rfl, HB4.out.grown hg5 (by have h1 := HB4.out.size; exact h1) (fun k e => by cases e; omega)⟩

theorem spl_take_step {l vs : List Value} {k : Nat} {v : Value} (hv : vs[k]? = some v) (hl : vs.length ≤ l.length) : (spl l 0 (vs.take k)).set k v = spl l 0 (vs.take (k + 1)) := by
  have h1 : k < vs.length := (List.getElem?_eq_some_iff.1 hv).1
  apply List.ext_getElem?
  intro i
  have hlen : (spl l 0 (vs.take k)).length = l.length := spl_len (by rw [List.length_take]; omega)
  rw [spl_get (by rw [List.length_take]; omega)]
  by_cases hik : i = k
  · subst hik
    rw [List.getElem?_set_self (by omega), if_pos ⟨by omega, by rw [List.length_take]; omega⟩, Nat.sub_zero, List.getElem?_take, if_pos (by omega), hv]
  · rw [List.getElem?_set_ne (by omega), spl_get (by rw [List.length_take]; omega)]
    simp only [List.length_take, List.getElem?_take]
    by_cases h2 : i < k
    · rw [if_pos (by omega), if_pos (by omega), if_pos (by omega), if_pos (by omega)]
    · rw [if_neg (by omega), if_neg (by omega)]
set_option maxRecDepth 100000 in
set_option maxHeartbeats 1000000 in
theorem rtorn_any (x y : Sec) (w : World) : Calls Try.prog 82 #[.agg (cellsS x).toArray, .agg (cellsS y).toArray] w fun o w' => o = .returned (.agg (cellsS (tornS x y)).toArray) ∧ Below w.heap.size w w' := by
  obtain ⟨z, hz, hzs⟩ := zero66
  have HZ := Lib.hid hz
  have HZS := Lib.hid hzs
  clear hz hzs
  go_enter Try.func82, Try.ntmps82
  go_wp2_with (with_reducible show wpList _ _ _ (Oper.mk _ (Op.alloc 66) _ _ _ _ :: _) _ _; refine wpList_alloc_any rfl 66 rfl z HZ.out ?_)
  obtain ⟨w3, h3⟩ : ∃ w3, ((w.alloc (.cells (cellsS x).toArray 66)).alloc (.cells (cellsS y).toArray 66)).alloc (.cells z 66) = w3 := ⟨_, rfl⟩
  have hb0 : Below w.heap.size w w3 := by rw [← h3]; exact (((Below.refl _ w).alloc (Nat.le_refl _) _).alloc (by simp) _).alloc (by simp; omega) _
  have hx : Blk w3 w.heap.size 66 (cellsS x).toArray := by rw [← h3]; exact ((Blk.new w 66 _).alloc _).alloc _
  have hy : Blk w3 (w.heap.size + 1) 66 (cellsS y).toArray := by
    rw [← h3]; have := (Blk.new (w.alloc (.cells (cellsS x).toArray 66)) 66 (cellsS y).toArray).alloc (.cells z 66); simpa using this
  have hz3 : Blk w3 (w.heap.size + 1 + 1) 66 z := by
    rw [← h3]; have := Blk.new ((w.alloc (.cells (cellsS x).toArray 66)).alloc (.cells (cellsS y).toArray 66)) 66 z; simpa using this
  rw [h3]
  have H3 := Lib.hid hb0
  have HX := Lib.hid hx
  have HY := Lib.hid hy
  have HZ3 := Lib.hid hz3
  clear h3 hb0 hx hy hz3
  go_loopw [5] (fun i wr => ∃ k : Nat, k ≤ 16 ∧ i = .int .i64 k ∧ Blk wr w.heap.size 66 (spl (cellsS x) 0 ((cellsS y).take k)).toArray ∧ Blk wr (w.heap.size + 1) 66 (cellsS y).toArray ∧ Blk wr (w.heap.size + 1 + 1) 66 z ∧ Below w.heap.size w wr) (fun i _ => 16 - (intOf i).toNat)
  case atStart => exact ⟨0, by omega, rfl, by rw [List.take_zero, spl_nil]; exact HX.out, HY.out, HZ3.out, H3.out⟩
  case round =>
    obtain ⟨k, hk, rfl, hb1, hb2, hb3, hbel⟩ := hrel
    by_cases hlt : k < 16
    · obtain ⟨v, hv⟩ : ∃ v, (cellsS y)[k]? = some v := ⟨_, List.getElem?_eq_getElem (by rw [cellsS_len]; omega)⟩
      obtain ⟨q, rfl⟩ := y.2.2 v (List.mem_of_getElem? hv)
      have hc1 : wr.cell? ⟨w.heap.size + 1, k, none⟩ = some (.int .u8 q) := hb2.list hv
      obtain ⟨u, hu⟩ : ∃ u, wr.cell? ⟨w.heap.size, k, none⟩ = some u := by
        rw [hb1.cell]; exact ⟨_, Array.getElem?_eq_getElem (by rw [List.size_toArray, spl_len (by rw [List.length_take, cellsS_len, cellsS_len]; omega), cellsS_len]; omega)⟩
      have hf : wr.frozen? ⟨w.heap.size, k, none⟩ = false := hb1.frozen k
      have H1 := Lib.hid hb1
      have H2 := Lib.hid hb2
      have H33 := Lib.hid hb3
      have HB := Lib.hid hbel
      have HV := Lib.hid hv
      clear hb1 hb2 hb3 hbel hv
      go_wp2
      refine ⟨⟨k + 1, by omega, by go_num, ?_, ?_, ?_, ?_⟩, by simp [intOf]; omega⟩
      · rw [← spl_take_step HV.out (by rw [cellsS_len, cellsS_len]; omega)]
        have := H1.out.set_ k (.int .u8 q)
        simpa using this
      · exact H2.out.far (by simp) _
      · exact H33.out.far (show w.heap.size + 1 + 1 ≠ w.heap.size by omega) _
      · exact HB.out.setCell (Nat.le_refl _) _
    · obtain rfl : k = 16 := by omega
      rw [← tornS_spl] at hb1
      have H1 := Lib.hid hb1
      have H33 := Lib.hid hb3
      have HB := Lib.hid hbel
      clear hb1 hb2 hb3 hbel
      go_wp2_with (first | (with_reducible show wpList _ _ _ (Oper.mk (some 15) _ _ _ _ _ :: _) _ _; go_must (refine wpList_load_mid rfl 66 (.tmp 2) rfl w.heap.size 0 rfl (cellsS (tornS x y)) _ (H1.out.range 0 _ (fun j v hj => by rw [Nat.zero_add]; simpa using hj)) Try.underlying66 rfl (by rw [cellsS_len]; exact info66) ?_)) | (with_reducible show wpList _ _ _ (Oper.mk none (Op.store 66 _ _) _ _ _ _ :: _) _ _; go_must (refine wpList_store_blk rfl 66 (.tmp 4) (.tmp 15) rfl (w.heap.size + 1 + 1) 0 (cellsS (tornS x y)) rfl rfl 66 z H33.out (by rw [cellsS_len, HZS.out]; decide) (by rw [cellsS_len]; exact info66) (cellsS_one _) ?_); intro w5 hb5 hg5 hs5))
      rw [spl_full (by rw [cellsS_len]; exact HZS.out)] at hb5
      go_frame
      exact bodyPost_ret (results_cell_row (P := Try.prog) rfl _ w5 (w.heap.size + 1 + 1) 66 _ (0, 0) _ rfl hb5 Try.underlying66 rfl (by rw [List.size_toArray, cellsS_len]; exact info66)) rfl ⟨rfl, HB.out.grown hg5 HB.out.size (fun k e => by cases e; omega)⟩
end Go.Proofs.Ytikhhipgamllgaa
