/- Sectors as data; sector.fits, Torn and Zero; two sectors compared. Conditions: in each theorem. -/
import Derived.Test.YtikhhipgamllgaaDoorMem
import Derived.Test.YtikhhipgamllgaaDoorTail
import Derived.ChangeKeysEq
import Derived.WalkSpells
import Derived.Great.BuildSlice
import Derived.Test.YtikhhipgamllgaaDoorRows
import Derived.Outline
import Derived.WalkLawsBesides
import Derived.Laws.BitsAllLaws
import Derived.Deep.DeepMust
namespace Go.Proofs.YtikhhipgamllgaaDoor
open Go.RowKit
def ub (bs : List Int) : List Value := bs.map (.int .u8)
theorem ub_len (bs : List Int) : (ub bs).length = bs.length := by simp [ub]
theorem ub_get (bs : List Int) (i : Nat) : (ub bs)[i]? = bs[i]?.map (.int .u8) := by simp [ub]
theorem ub_one (bs : List Int) : ∀ v ∈ ub bs, v.oneCell' = true := fun v hv => by
  obtain ⟨n, _, rfl⟩ := List.mem_map.1 hv
  rfl
theorem ub_app (a b : List Int) : ub (a ++ b) = ub a ++ ub b := by simp [ub]
theorem ub_take (a : List Int) (n : Nat) : ub (a.take n) = (ub a).take n := by simp [ub, List.map_take]
theorem ub_drop (a : List Int) (n : Nat) : ub (a.drop n) = (ub a).drop n := by simp [ub, List.map_drop]
/-- a sector -/
abbrev Sec := { s : List Int // s.length = 32 }
def cellsS (s : Sec) : List Value := ub s.1
theorem cellsS_len (s : Sec) : (cellsS s).length = 32 := by rw [cellsS, ub_len]; exact s.2
theorem cellsS_one (s : Sec) : ∀ v ∈ cellsS s, v.oneCell' = true := ub_one s.1
def zeroS : Sec := ⟨List.replicate 32 0, by simp⟩
theorem info34 : (Tryd.prog.info? 34).map (·.size) = some 32 := by kernel_rfl
theorem info34' : (Tryd.prog.info? 34).map (fun i => (i.zero, i.size, i.bytes)) = some (some (.agg (cellsS zeroS).toArray), 32, 32) := by kernel_rfl
theorem info3' : (Tryd.prog.info? 3).map (fun i => (i.zero, i.size, i.bytes)) = some (some (.int .i64 0), 1, 8) := by kernel_rfl
theorem info5' : (Tryd.prog.info? 5).map (fun i => (i.zero, i.size, i.bytes)) = some (some (.int .u8 0), 1, 1) := by kernel_rfl
theorem zero34e : (Tryd.prog.info? 34).map (fun i => i.zero) = some (some (.agg (cellsS zeroS).toArray)) := by kernel_rfl
theorem zero34 : ∃ z : Array Value, (Tryd.prog.info? 34).map (fun i => i.zero) = some (some (.agg z)) ∧ z.size = 32 := ⟨_, zero34e, by rw [List.size_toArray, cellsS_len]⟩
/-- a row of one's own was given -/
def GotRow (w : World) (e : TypeId) (size n : Nat) (xs : List Value) (o : Ending) (w' : World) : Prop := ∃ v, o = .returned v ∧ w'.ownsRow w.heap.size e size v n xs ∧ Below w.heap.size w w'
theorem own_slice {w : World} {base : Nat} {e : TypeId} {size n : Nat} {v : Value} {xs : List Value} (h : w.ownsRow base e size v n xs) : ∃ A c, v = .slice A n c ∧ Reads w w.heap.size size A n xs := by
  rcases h.2 with ⟨rfl, rfl⟩ | ⟨g, cap, cur, rfl, _⟩
  · exact ⟨none, 0, rfl, Reads.of_own h⟩
  · exact ⟨_, _, rfl, Reads.of_own h⟩
theorem secs_one (l : List Sec) : ∀ u ∈ l.flatMap cellsS, u.oneCell' = true := fun u hu => by
  obtain ⟨s, _, h⟩ := List.mem_flatMap.1 hu
  exact cellsS_one s u h
def tornS (x y : Sec) : Sec := ⟨y.1.take 16 ++ x.1.drop 16, by simp [x.2, y.2]⟩
theorem tornS_spl (x y : Sec) : cellsS (tornS x y) = spl (cellsS x) 0 ((cellsS y).take 16) := by
  simp [cellsS, tornS, spl, ub, y.2, List.map_take, List.map_drop]
theorem take_part {l : List Value} {n : Nat} : ∀ j v, (l.take n)[j]? = some v → l.toArray[0 + j]? = some v := fun j v h => by
  rw [List.getElem?_take] at h
  rw [Nat.zero_add]
  split at h
  · simpa using h
  · cases h
theorem some_ne {a b : Nat} (h : a ≠ b) : some a ≠ some b := fun e => h (Option.some.inj e)
theorem row_le {a b : Nat} (h : b ≤ a) : ∀ k, some a = some k → b ≤ k := fun k e => by cases e; exact h
theorem spl_full {l vs : List Value} (h : l.length = vs.length) : spl l 0 vs = vs := by
  unfold spl
  rw [List.take_zero, List.nil_append, List.drop_of_length_le (by omega), List.append_nil]
theorem drewN_blk {w : World} {g n : Nat} {t : TypeId} {cs : Array Value} (h : Blk w g t cs) : Blk (w.drewN n) g t cs := h
theorem below_drewN {w w' : World} {B n : Nat} (h : Below B w w') : Below B w (w'.drewN n) := ⟨h.os, h.tape, h.output, h.size, h.block⟩
theorem range_drewN {w : World} {b o n : Nat} {cs : List Value} (h : w.rangeAt b o cs) : (w.drewN n).rangeAt b o cs := h
/-! ### two sectors compared -/
theorem info5 : ∃ i, Tryd.prog.info? 5 = some i := Option.isSome_iff_exists.1 (by kernel_rfl)
theorem eqItems_any (w : World) (d : Nat) (xs ys : List Int) : ∀ is : List Nat, (∀ i ∈ is, i < xs.length ∧ i < ys.length) →
    (Op.eqItems (d + 1) 5 1 (ub xs).toArray (ub ys).toArray is).run Tryd.prog w = .ok (is.all fun i => xs[i]? == ys[i]?) w
  | [], _ => by simp [Op.eqItems]
  | i :: is, h => by
    obtain ⟨h1, h2⟩ := h i (by simp)
    have hp : ∀ l : List Int, i < l.length → ∀ hl : i < l.length, (part 5 (ub l).toArray (i * 1)).run Tryd.prog w = .ok (.int .u8 l[i]) w := fun l _ hl => by
      rw [Nat.mul_one]
      have : (ub l)[i]? = some (.int .u8 l[i]) := by rw [ub_get, List.getElem?_eq_getElem hl]; rfl
      simp [part, isAgg, run_underlying Tryd.underlying5, this]
    simp only [Op.eqItems, Sem.run_bind, hp xs h1 h1, hp ys h2 h2, Result.andThen_ok, run_equalIn_int w d 5 .u8 .u8 _ _ Tryd.underlying5, List.all_cons, List.getElem?_eq_getElem h1, List.getElem?_eq_getElem h2]
    by_cases e : xs[i] = ys[i]
    · rw [e]
      simp only [beq_self_eq_true, Bool.not_true, Bool.false_eq_true, if_false, Bool.true_and]
      exact eqItems_any w d xs ys is fun j hj => h j (by simp [hj])
    · simp [e]
theorem sec_all (s t : Sec) : ((List.range 32).all fun i => s.1[i]? == t.1[i]?) = decide (s = t) := by
  rw [Bool.eq_iff_iff, decide_eq_true_iff, List.all_eq_true]
  constructor
  · intro h
    apply Subtype.ext
    apply List.ext_getElem?
    intro i
    by_cases hi : i < 32
    · simpa using h i (by simpa using hi)
    · rw [List.getElem?_eq_none (by rw [s.2]; omega), List.getElem?_eq_none (by rw [t.2]; omega)]
  · rintro rfl i _; simp
theorem equalIn_sec (w : World) (d : Nat) (s t : Sec) : (Op.equalIn (d + 2) 34 (.agg (cellsS s).toArray) (.agg (cellsS t).toArray)).run Tryd.prog w = .ok (decide (s = t)) w := by
  obtain ⟨i5, h5⟩ := info5
  rw [run_equalIn_array w (d + 1) _ _ Tryd.underlying34 h5]
  have hc : Tryd.prog.cellsOf 5 = 1 := by kernel_rfl
  rw [hc, ← sec_all]
  exact eqItems_any w d s.1 t.1 _ fun i hi => ⟨by rw [s.2]; simpa using hi, by rw [t.2]; simpa using hi⟩
theorem neq_sec (w : World) (s t : Sec) : (binOp .neq 34 (.agg (cellsS s).toArray) (.agg (cellsS t).toArray)).run Tryd.prog w = .ok (.bool (!decide (s = t))) w := by
  rw [run_neq_struct, equalIn_sec w 9998 s t]; rfl
theorem eql_sec (w : World) (s t : Sec) : (binOp .eql 34 (.agg (cellsS s).toArray) (.agg (cellsS t).toArray)).run Tryd.prog w = .ok (.bool (decide (s = t))) w := by
  rw [run_eql_struct, equalIn_sec w 9998 s t]; rfl
theorem guard_sec (w : World) (op : BinOp) (x y : Operand) (s t : Array Value) : (eqGuard op 34 x y (.agg s) (.agg t)).run Tryd.prog w = .ok () w := run_eqGuard_agg w op 34 x y s t (by kernel_rfl)
/-! ### single operations in a row -/
section
variable {P : Program} {ops : Array Oper} {rest : List Oper} {o : Oper} {a : Act} {w : World} {Q : Exit → Act → World → Prop}
theorem wpList_val (hgd : o.guard = none) (V : Value) (h : (execOp a.eval o).run P w = .ok (.value V) w) (hk : wpList P ops Q rest (a.put o.dst V) w) : wpList P ops Q (o :: rest) a w :=
  wpList_plain hgd fun _ hK => by
    unfold Oper.wp
    simp only [h]
    exact hK _ _ hk
theorem wpList_build_nil (hg : o.guard = none) (t : TypeId) (ho : o.op = .build t #[]) (cells : Array Value) (hf : P.built t [] = some cells) (h : wpList P ops Q rest (a.put o.dst (.agg cells)) w) : wpList P ops Q (o :: rest) a w :=
  wpList_buildTo hg t #[] ho _ rfl cells (by simpa using hf) h
theorem wpList_bin (hgd : o.guard = none) (b : BinOp) (t u : TypeId) (x y : Operand) (ho : o.op = .binOp b t x y u) (X Y V : Value) (hx : a.eval x = X) (hy : a.eval y = Y) (hg : (eqGuard b t x y X Y).run P w = .ok () w) (h : (binOp b t X Y).run P w = .ok V w)
    (hk : wpList P ops Q rest (a.put o.dst V) w) : wpList P ops Q (o :: rest) a w :=
  wpList_val hgd V (by
    unfold execOp
    simp only [ho, hx, hy, Sem.run_bind, hg, h, Result.andThen_ok, Sem.run_pure]) hk
end
theorem built34 : Tryd.prog.built 34 [] = some (cellsS zeroS).toArray := by kernel_rfl
/-! ### functions -/
def fitsB (at_ n : Int) : Bool := decide (0 ≤ at_) && decide (at_ ≤ 32) && decide (0 ≤ n) && decide (n ≤ 32 - at_)
theorem fits_any (at_ n : Int) (w : World) (h1 : at_ ≤ 9223372036854775807) (h2 : -9223372036854775808 ≤ at_) (h3 : n ≤ 9223372036854775807) (h4 : -9223372036854775808 ≤ n) :
    Calls Tryd.prog 23 #[.int .i64 at_, .int .i64 n] w fun o w' => o = .returned (.bool (fitsB at_ n)) ∧ w' = w := by
  unfold fitsB
  by_cases c1 : 0 ≤ at_
  · by_cases c2 : at_ ≤ 32
    · by_cases c3 : 0 ≤ n
      · go_enter Tryd.func23, Tryd.ntmps23
        go_wp2
        go_ret
        first | (simp; omega) | simp [c1, c2, c3]
      · go_enter Tryd.func23, Tryd.ntmps23
        go_wp2
        go_ret
        first | (simp; omega) | simp [c1, c2, c3]
    · go_enter Tryd.func23, Tryd.ntmps23
      go_wp2
      go_ret
      first | (simp; omega) | simp [c1, c2]
  · go_enter Tryd.func23, Tryd.ntmps23
    go_wp2
    go_ret
    first | (simp; omega) | simp [c1]
set_option maxHeartbeats 1000000 in
theorem torn_any (x y : Sec) (w : World) : Calls Tryd.prog 14 #[.agg (cellsS x).toArray, .agg (cellsS y).toArray] w fun o w' => o = .returned (.agg (cellsS (tornS x y)).toArray) ∧ Below w.heap.size w w' := by
  obtain ⟨z, hz, hzs⟩ := zero34
  have HZ := Lib.hid hz
  have HZS := Lib.hid hzs
  clear hz hzs
  go_enter Tryd.func14, Tryd.ntmps14
  go_wp2_with (with_reducible show wpList _ _ _ (Oper.mk _ (Op.alloc 34) _ _ _ _ :: _) _ _; refine wpList_alloc_any rfl 34 rfl z HZ.out ?_)
  go_frame
  simp only [World.size_alloc]
  obtain ⟨w3, h3⟩ : ∃ w3, ((w.alloc (.cells (cellsS x).toArray 34)).alloc (.cells (cellsS y).toArray 34)).alloc (.cells z 34) = w3 := ⟨_, rfl⟩
  have hb0 : Below w.heap.size w w3 := by rw [← h3]; exact (((Below.refl _ w).alloc (Nat.le_refl _) _).alloc (by simp) _).alloc (by simp; omega) _
  have hx : Blk w3 w.heap.size 34 (cellsS x).toArray := by rw [← h3]; exact ((Blk.new w 34 _).alloc _).alloc _
  have hy : Blk w3 (w.heap.size + 1) 34 (cellsS y).toArray := by
    rw [← h3]; have := (Blk.new (w.alloc (.cells (cellsS x).toArray 34)) 34 (cellsS y).toArray).alloc (.cells z 34); simpa using this
  have hz3 : Blk w3 (w.heap.size + 1 + 1) 34 z := by
    rw [← h3]; have := Blk.new ((w.alloc (.cells (cellsS x).toArray 34)).alloc (.cells (cellsS y).toArray 34)) 34 z; simpa using this
  rw [h3]
  have H3 := Lib.hid hb0
  have HX := Lib.hid hx
  have HY := Lib.hid hy
  have HZ3 := Lib.hid hz3
  clear h3 hb0 hx hy hz3
  refine wp_region_quiet_tail (fun W => ∃ n, W = w3.drewN n) 2 (by kernel_rfl) (by kernel_rfl) ⟨1, rfl⟩ ?_
  simp only [List.take_succ_cons, List.take_zero, List.drop_succ_cons, List.drop_zero]
  repeat (go_big_quiet_step (fail))
  refine wpQuiet_nil ?_
  rintro w' ⟨n, rfl⟩
  have hsz := H3.out.size
  go_wp2_with (first | (with_reducible show wpList _ _ _ (Oper.mk (some 7) _ _ _ _ _ :: _) _ _; go_must (refine wpList_copy_blk rfl (.tmp 5) (.tmp 6) 22 22 rfl 5 Tryd.underlying22 (by kernel_rfl) w.heap.size 0 16 32 (w.heap.size + 1) 0 32 32 rfl rfl (cellsS x) 34 (drewN_blk HX.out) ((cellsS y).take 16) (by rw [List.length_take, cellsS_len]; decide) ((drewN_blk HY.out).range 0 _ take_part) (by rw [List.length_take, cellsS_len, cellsS_len]; omega) (fun v hv => cellsS_one y v (List.mem_of_mem_take hv)) ?_); go_must (intro w4 hb4 hg4 hs4; have HX4 : Hid (Blk w4 w.heap.size 34 (cellsS (tornS x y)).toArray) := Lib.hid (by rw [tornS_spl]; exact hb4); have HZ4 := Lib.hid ((drewN_blk HZ3.out).grown hg4 (some_ne (by omega))); have HB4 := Lib.hid ((below_drewN (n := n) H3.out).grown hg4 (below_drewN (n := n) H3.out).size (row_le (Nat.le_refl _))); clear hb4 hg4 hs4)) | (with_reducible show wpList _ _ _ (Oper.mk (some 8) _ _ _ _ _ :: _) _ _; go_must (refine wpList_load_mid rfl 34 (.tmp 2) rfl w.heap.size 0 rfl (cellsS (tornS x y)) _ (HX4.out.range 0 _ (fun j v hj => by rw [Nat.zero_add]; simpa using hj)) Tryd.underlying34 rfl (by rw [cellsS_len]; exact info34) ?_)) | (with_reducible show wpList _ _ _ (Oper.mk none (Op.store 34 _ _) _ _ _ _ :: _) _ _; go_must (refine wpList_store_blk rfl 34 (.tmp 4) (.tmp 8) rfl (w.heap.size + 1 + 1) 0 (cellsS (tornS x y)) rfl rfl 34 z HZ4.out (by rw [cellsS_len, HZS.out]; decide) (by rw [cellsS_len]; exact info34) (cellsS_one _) ?_); intro w5 hb5 hg5 hs5))
  rw [spl_full (by rw [cellsS_len]; exact HZS.out)] at hb5
  go_frame
  exact bodyPost_ret (results_cell_row (P := Tryd.prog) rfl _ w5 (w.heap.size + 1 + 1) 34 _ (0, 0) _ rfl hb5 Tryd.underlying34 rfl (by rw [List.size_toArray, cellsS_len]; exact info34)) rfl ⟨rfl, HB4.out.grown hg5 (by have h1 := HB4.out.size; exact h1) (fun k e => by cases e; omega)⟩

set_option maxHeartbeats 1000000 in
theorem zero_any (x : Sec) (w : World) : Calls Tryd.prog 18 #[.agg (cellsS x).toArray] w fun o w' => o = .returned (.bool (decide (x = zeroS))) ∧ Below w.heap.size w w' := by
  go_enter Tryd.func18, Tryd.ntmps18
  have h0 := (Blk.new w 34 (cellsS x).toArray)
  have H0 := Lib.hid h0
  clear h0
  go_wp2_with (first | (with_reducible show wpList _ _ _ (Oper.mk _ (Op.load 34 _) _ _ _ _ :: _) _ _; go_must (refine wpList_load_mid rfl 34 (.tmp 1) rfl w.heap.size 0 rfl (cellsS x) _ (H0.out.range 0 _ (fun j v hj => by rw [Nat.zero_add]; simpa using hj)) Tryd.underlying34 rfl (by rw [cellsS_len]; exact info34) ?_)) | (with_reducible show wpList _ _ _ (Oper.mk _ (Op.build 34 _) _ _ _ _ :: _) _ _; go_must (refine wpList_build_nil rfl 34 rfl _ built34 ?_)) | (with_reducible show wpList _ _ _ (Oper.mk _ (Op.binOp .eql 34 _ _ _) _ _ _ _ :: _) _ _; go_must (refine wpList_bin rfl .eql 34 34 (.tmp 3) (.tmp 4) rfl (.agg (cellsS x).toArray) (.agg (cellsS zeroS).toArray) _ rfl rfl (guard_sec _ _ _ _ _ _) (eql_sec _ x zeroS) ?_)))
  go_ret
  exact ⟨rfl, (Below.refl _ w).alloc (Nat.le_refl _) _⟩
end Go.Proofs.YtikhhipgamllgaaDoor
