/- flotsamlaw04.knows returns true. Conditions: none. -/
import Derived.Test.YtikhhipgamllgaaDoorSpr
import Derived.Test.YtikhhipgamllgaaDoorUnl
namespace Go.Proofs.YtikhhipgamllgaaDoor
open Go.RowKit
theorem reads_blk {w : World} {g : Nat} {t : TypeId} {cs : List Value} {size n : Nat} (h : Blk w g t cs.toArray) (hl : cs.length = n * size) : Reads w w.heap.size size (some ⟨g, 0, none⟩) n cs :=
  ⟨hl, fun _ => ⟨⟨g, 0, none⟩, rfl, h.lt, fun j u hu => by rw [Addr.add_mid, Nat.zero_add]; exact h.list hu⟩⟩
theorem wp_run {P : Program} {op : Oper} {a : Act} {w w' : World} {K : Act → World → Prop} {Q : Exit → Act → World → Prop} (V : Value) (hr : (execOp a.eval op).run P w = .ok (.value V) w') (h : K (a.put op.dst V) w') : op.wp P a w K Q := by
  unfold Oper.wp
  rw [hr]
  exact h
theorem exec_bin {P : Program} {w : World} {a : Act} {o : Oper} {b : BinOp} {t u : TypeId} {x y : Operand} {X Y V : Value} (ho : o.op = .binOp b t x y u) (hx : a.eval x = X) (hy : a.eval y = Y) (hg : (eqGuard b t x y X Y).run P w = .ok () w) (h : (binOp b t X Y).run P w = .ok V w) :
    (execOp a.eval o).run P w = .ok (.value V) w := by
  unfold execOp
  simp only [ho, hx, hy, Sem.run_bind, hg, h, Result.andThen_ok, Sem.run_pure]
def b33 : List Int := List.replicate 33 0
theorem mk22 (w : World) : (Instr.makeSlice 22 (.int .i64 33) (.int .i64 33)).run Tryd.prog w = .ok (.slice (some ⟨w.heap.size, 0, none⟩) 33 33) (w.alloc (.cells (ub b33).toArray 5)) := by kernel_rfl
def s12 : Sec := ofS [1, 2]
theorem s12_torn : tornS zeroS s12 = s12 := by
  apply Subtype.ext
  decide
theorem s12_zero : decide (s12 = zeroS) = false := by decide
theorem s12_one : (cellsS s12)[1]? = some (.int .u8 2) := by rfl
theorem spr33_unl : (unl (spr b33) []).length = 2 := by decide
theorem spr33_len : (spr b33).length = 2 := by decide
theorem know_unl (A : Option Addr) (c : Nat) (w : World) (hr : Reads w w.heap.size 32 A 2 ((spr b33).flatMap cellsS)) : Calls Tryd.prog 12 #[.slice A 2 c, .slice none 0 0] w (GotRow w 3 1 2 (iz (unl (spr b33) []))) := by
  have h := unlike_any A none c 0 (spr b33) [] w (by rw [spr33_len]; decide) (by simp) (by rw [spr33_len]; exact hr) Reads.none_
  rw [spr33_len, spr33_unl] at h
  exact h
set_option maxRecDepth 100000 in
set_option maxHeartbeats 1000000 in
theorem knows_any (w : World) : Calls Tryd.prog 5 #[] w fun o w' => o = .returned (.bool true) ∧ Below w.heap.size w w' := by
  go_enter Tryd.func5, Tryd.ntmps5
  obtain ⟨w1, h1⟩ : ∃ w1, w.alloc (.cells #[.int .u8 1, .int .u8 2] 5) = w1 := ⟨_, rfl⟩
  have hb1 : Below w.heap.size w w1 := by rw [← h1]; exact (Below.refl _ w).alloc (Nat.le_refl _) _
  have hr1 : Reads w1 w1.heap.size 1 (some ⟨w.heap.size, 0, none⟩) 2 (ub [1, 2]) := by rw [← h1]; exact reads_blk (Blk.new w 5 _) rfl
  have HB1 := Lib.hid hb1
  have HR1 := Lib.hid hr1
  clear hb1 hr1
  go_wp2_with fail
  clear h1
  refine (of_any (some ⟨w.heap.size, 0, none⟩) 2 [1, 2] w1 (by simp) HR1.out).mono ?_
  rintro o w2 ⟨rfl, hb2⟩
  have HB2 := Lib.hid (HB1.out.trans (hb2.mono HB1.out.size))
  clear hb2
  obtain ⟨s, hs⟩ : ∃ s, s = ofS [1, 2] := ⟨_, rfl⟩
  rw [← hs]
  have HS : Hid (s = s12) := Lib.hid hs
  clear hs
  go_wp2_with (first | (with_reducible show wpList _ _ _ (Oper.mk _ (Op.alloc 34) _ _ _ _ :: _) _ _; refine wpList_alloc_any rfl 34 rfl _ zero34e ?_) | (with_reducible show wpList _ _ _ (Oper.mk _ (Op.build 34 _) _ _ _ _ :: _) _ _; go_must (refine wpList_build_nil rfl 34 rfl _ built34 ?_)) | (with_reducible show wpList _ _ _ (Oper.mk none (Op.store 34 _ _) _ _ _ _ :: _) _ _; go_must (refine wpList_store_made rfl 34 (.tmp 1) (.tmp 8) rfl _ (cellsS s) rfl rfl (by rw [cellsS_len]; exact info34) (by rw [List.size_toArray, cellsS_len, cellsS_len]) (cellsS_one _) ?_); intro w3 hb3 hg3 hs3; have HBK3 := Lib.hid hb3; have HB3 := Lib.hid (HB2.out.grown hg3 HB2.out.size (fun k e => by cases e)); clear hb3 hg3 hs3) | (with_reducible show wpList _ _ _ (Oper.mk _ (Op.load 34 _) _ _ _ _ :: _) _ _; go_must (refine wpList_load_mid rfl 34 (.tmp 1) rfl w2.heap.size 0 rfl (cellsS s) _ (range0 HBK3.out) Tryd.underlying34 rfl (by rw [cellsS_len]; exact info34) ?_)))
  refine (torn_any zeroS s w3).mono ?_
  rintro o w4 ⟨rfl, hb4⟩
  have HB4 := Lib.hid (HB3.out.trans (hb4.mono HB3.out.size))
  have HBK4 := Lib.hid (HBK3.out.below hb4 HBK3.out.lt)
  clear hb4
  obtain ⟨t, ht⟩ : ∃ t, t = tornS zeroS s := ⟨_, rfl⟩
  rw [← ht]
  have HT : Hid (t = s) := Lib.hid (by rw [ht, HS.out, s12_torn])
  clear ht
  go_wp2_with (first | (with_reducible show wpList _ _ _ (Oper.mk _ (Op.alloc 34) _ _ _ _ :: _) _ _; refine wpList_alloc_any rfl 34 rfl _ zero34e ?_) | (with_reducible show wpList _ _ _ (Oper.mk none (Op.store 34 _ _) _ _ _ _ :: _) _ _; go_must (refine wpList_store_made rfl 34 (.tmp 3) (.tmp 12) rfl _ (cellsS t) rfl rfl (by rw [cellsS_len]; exact info34) (by rw [List.size_toArray, cellsS_len, cellsS_len]) (cellsS_one _) ?_); intro w5 hb5 hg5 hs5; have HBK5 := Lib.hid (HBK4.out.grown hg5 (fun e => by cases e)); have HT5 := Lib.hid hb5; have HB5 := Lib.hid (HB4.out.grown hg5 HB4.out.size (fun k e => by cases e)); clear hb5 hg5 hs5) | (with_reducible show wpList _ _ _ (Oper.mk _ (Op.makeSlice _ _ _) _ _ _ _ :: _) _ _; go_must (refine wpList_run rfl _ _ (exec_mk (L := .int .i64 33) (C := .int .i64 33) rfl rfl rfl (mk22 _)) ?_)))
  refine (spread_any (some ⟨w5.heap.size, 0, none⟩) 33 b33 _ (by decide) (by decide) (reads_blk (Blk.new w5 5 _) (by decide))).mono ?_
  rintro o w7 ⟨v, rfl, hown, hb7⟩
  rw [spr33_len] at hown
  obtain ⟨A7, c7, rfl, hr7⟩ := own_slice hown
  have hb57 : Below w5.heap.size w5 w7 := ((Below.refl _ w5).alloc (Nat.le_refl _) _).trans (hb7.mono (by simp))
  have HB7 := Lib.hid (HB5.out.trans (hb57.mono HB5.out.size))
  have HBK7 := Lib.hid (HBK5.out.below hb57 HBK5.out.lt)
  have HT7 := Lib.hid (HT5.out.below hb57 HT5.out.lt)
  have hc2 : w7.cell? ⟨w2.heap.size, 1, none⟩ = some (.int .u8 2) := HBK7.out.list (by rw [HS.out]; exact s12_one)
  have HR7 := Lib.hid hr7
  have HZ : Hid (decide (s = zeroS) = false) := Lib.hid (by rw [HS.out]; exact s12_zero)
  have HTS : Hid (decide (t = s) = true) := Lib.hid (by rw [HT.out]; simp)
  clear hown hr7 hb7 hb57
  go_wp2_with (first
    | (with_reducible show wpList _ _ _ (Oper.mk (some 22) _ _ _ _ _ :: _) _ _; refine BigFrame.wpList_want rfl fun K hK => ?_; refine wp_load_mid 34 (.tmp 3) rfl w4.heap.size 0 rfl (cellsS t) _ (range0 HT7.out) Tryd.underlying34 rfl (by rw [cellsS_len]; exact info34) (hK _ _ ?_); go_frame)
    | (with_reducible show wpList _ _ _ (Oper.mk (some 23) _ _ _ _ _ :: _) _ _; refine BigFrame.wpList_want rfl fun K hK => ?_; refine wp_load_mid 34 (.tmp 1) rfl w2.heap.size 0 rfl (cellsS s) _ (range0 HBK7.out) Tryd.underlying34 rfl (by rw [cellsS_len]; exact info34) (hK _ _ ?_); go_frame)
    | (with_reducible show wpList _ _ _ (Oper.mk (some 24) _ _ _ _ _ :: _) _ _; refine BigFrame.wpList_want rfl fun K hK => ?_; refine wp_run (.bool true) (exec_bin (X := .agg (cellsS t).toArray) (Y := .agg (cellsS s).toArray) rfl rfl rfl (guard_sec _ _ _ _ _ _) (by rw [← HTS.out]; exact eql_sec _ t s)) (hK _ _ ?_); go_frame)
    | (with_reducible show wpList _ _ _ (Oper.mk (some 27) _ _ _ _ _ :: _) _ _; refine BigFrame.wpList_want rfl fun K hK => ?_; refine wp_load_mid 34 (.tmp 1) rfl w2.heap.size 0 rfl (cellsS s) _ (range0 HBK7.out) Tryd.underlying34 rfl (by rw [cellsS_len]; exact info34) (hK _ _ ?_); go_frame)
    | (go_at_call 18; refine (zero_any s w7).mono ?_; rintro o w8 ⟨rfl, hb8⟩; rw [HZ.out]; have HB8 := Lib.hid (HB7.out.trans (hb8.mono HB7.out.size)); have HR8 := Lib.hid ((HR7.out.below hb8).more hb8.size); clear hb8)
    | (go_at_call 12; refine (know_unl A7 c7 _ HR8.out).mono ?_; rintro o w9 ⟨v9, rfl, hown9, hb9⟩; obtain ⟨A9, c9, rfl, -⟩ := own_slice hown9; have HB9 := Lib.hid (HB8.out.trans (hb9.mono HB8.out.size)); clear hown9 hb9))
  go_ret
  exact ⟨rfl, HB9.out⟩
end Go.Proofs.YtikhhipgamllgaaDoor
