/- sector.Put and Of. Conditions: in each theorem. -/
import Derived.Test.YtikhhipgamllgaaDoorSec
import Derived.Laws.ResultCell
namespace Go.Proofs.YtikhhipgamllgaaDoor
open Go.RowKit
theorem results_row_tmp {P : Program} {fn : Func} {p u : Tmp} {ty : TypeId} (h : fn.results = #[.cell p ty, .tmp u]) (tmps : Array Value) (w : World) (g : Nat) (t : TypeId) (cs : Array Value) (d : TypeDesc)
    (hp : tmps.getD p undef = .pointer (some ⟨g, 0, none⟩)) (hg : Blk w g t cs)
    (hu : P.underlying ty = some d) (hd : (match d with | .struct _ | .array _ _ => true | _ => false) = true) (hi : (P.info? ty).map (·.size) = some cs.size) :
    (results fn tmps).run P w = .ok (.tuple #[.agg cs, tmps.getD u undef]) w := by
  rw [results_cell_tmp h, hp]
  simp [asAddr, run_loadVar_row w g t ty cs (0, 0) d hg hu hd hi]
theorem wpList_copy_at {P : Program} {w : World} {ops : Array Oper} {rest : List Oper} {o : Oper} {a : Act} {Q : Exit → Act → World → Prop} (hgd : o.guard = none) (d s : Operand) (dT sT : TypeId)
    (ho : o.op = .call { callee := .builtin .copy, args := #[d, s], argTypes := #[dT, sT] }) (elem : TypeId) (hu : P.underlying dT = some (.slice elem)) (hsz : (P.info? elem).map (·.size) = some 1)
    (g off dLen dCap : Nat) (ad : Addr) (sLen sCap : Nat) (hd : a.eval d = .slice (some ⟨g, off, none⟩) dLen dCap) (hs : a.eval s = .slice (some ad) sLen sCap)
    (cur : List Value) (t : TypeId) (hg : Blk w g t cur.toArray) (cs : List Value) (hn : cs.length = Nat.min sLen dLen)
    (hsrc : ∀ j v, cs[j]? = some v → w.cell? (ad.add j) = some v) (hfit : off + cs.length ≤ cur.length) (h1 : ∀ v ∈ cs, v.oneCell' = true)
    (h : ∀ w', Blk w' g t (spl cur off cs).toArray → w.grownBy w' (some g) → w'.heap.size = w.heap.size → wpList P ops Q rest (a.put o.dst (goInt cs.length)) w') : wpList P ops Q (o :: rest) a w :=
  wpList_copy_own hgd d s dT sT ho elem hu hsz g off dLen dCap ad sLen sCap hd hs cur.toArray t hg cs hn hsrc (by simpa using hfit) h1
    (h _ (setRow_heap w g _ _ t _ hg) ⟨rfl, rfl, rfl, by simp, fun k _ hk => setRow_other w g k _ (fun e => hk (by rw [e]))⟩ (by simp))
def putS (s : Sec) (a : Nat) (bs : List Int) (h : a + bs.length ≤ 32) : Sec := ⟨s.1.take a ++ (bs ++ s.1.drop (a + bs.length)), by
  have := s.2
  simp only [List.length_append, List.length_take, List.length_drop]; omega⟩
theorem putS_spl (s : Sec) (a : Nat) (bs : List Int) (h : a + bs.length ≤ 32) : cellsS (putS s a bs h) = spl (cellsS s) a (ub bs) := by
  unfold cellsS putS spl
  simp only [ub_app, ub_take, ub_drop, ub_len]
theorem putS_nil (s : Sec) (a : Nat) (h : a + 0 ≤ 32) : putS s a [] h = s := by
  apply Subtype.ext
  show s.1.take a ++ ([] ++ s.1.drop (a + 0)) = s.1
  simp
theorem fits_yes {a n : Nat} (h : a + n ≤ 32) : fitsB a n = true := by
  simp [fitsB]; omega
theorem info5s : (Tryd.prog.info? 5).map (·.size) = some 1 := by kernel_rfl
def PutTo (w : World) (s : Sec) (b : Bool) (o : Ending) (w' : World) : Prop := o = .returned (.tuple #[.agg (cellsS s).toArray, .bool b]) ∧ Below w.heap.size w w'
theorem range0 {w : World} {g : Nat} {t : TypeId} {cs : List Value} (h : Blk w g t cs.toArray) : w.rangeAt g 0 cs := h.range 0 _ (fun j v hj => by rw [Nat.zero_add]; simpa using hj)
theorem sec_from (g a : Nat) (ha : a ≤ 32) (W : World) : (Instr.sliceAt 34 (.pointer (some ⟨g, 0, none⟩)) (some (.int .i64 a)) none none).run Tryd.prog W = .ok (.slice (some (if 32 = a then ⟨g, 0, none⟩ else ⟨g, a, none⟩)) (32 - a) (32 - a)) W := by
  have e : Tryd.prog.arrayLen 34 = 32 := by kernel_rfl
  have hz : Tryd.prog.elem 34 = 5 := by kernel_rfl
  rw [run_sliceAt_array_l W 34 ⟨g, 0, none⟩ (by rw [e, hz]; exact Tryd.underlying34) .i64 a (by omega) (by rw [e]; omega), e, hz]
  have hs : (sizeOf 5).run Tryd.prog W = .ok 1 W := Tryd.sizeOf5 W
  rw [hs]
  simp only [Result.andThen_ok, slicedAt, Int.toNat_natCast, Nat.mul_one, Addr.add_mid, Nat.zero_add]
set_option maxHeartbeats 1000000 in
theorem put_yes (s : Sec) (a : Nat) (A : Option Addr) (c : Nat) (bs : List Int) (w : World) (h : a + bs.length ≤ 32) (hr : Reads w w.heap.size 1 A bs.length (ub bs)) :
    Calls Tryd.prog 15 #[.agg (cellsS s).toArray, .int .i64 a, .slice A bs.length c] w (PutTo w (putS s a bs h) true) := by
  obtain ⟨n, hnn⟩ : ∃ n, n = bs.length := ⟨_, rfl⟩
  have HP := Lib.hid (putS_spl s a bs h)
  have HN := Lib.hid hnn
  have HR := Lib.hid hr
  have HF : Hid (fitsB a n = true) := Lib.hid (fits_yes (by rw [hnn]; exact h))
  have h' : a + n ≤ 32 := by rw [hnn]; exact h
  rw [← hnn] at ⊢
  have HP0 : Hid (bs = [] → putS s a bs h = s) := Lib.hid (fun e => by subst e; exact putS_nil s a h)
  obtain ⟨r, hrr⟩ : ∃ r, putS s a bs h = r := ⟨_, rfl⟩
  rw [hrr] at HP HP0 ⊢
  clear hr hnn h hrr
  obtain ⟨w3, h3⟩ : ∃ w3, (w.alloc (.cells (cellsS s).toArray 34)).alloc (.cells (cellsS zeroS).toArray 34) = w3 := ⟨_, rfl⟩
  have hb0 : Below w.heap.size w w3 := by rw [← h3]; exact ((Below.refl _ w).alloc (Nat.le_refl _) _).alloc (by simp) _
  have hx : Blk w3 w.heap.size 34 (cellsS s).toArray := by rw [← h3]; exact (Blk.new w 34 _).alloc _
  have hz : Blk w3 (w.heap.size + 1) 34 (cellsS zeroS).toArray := by
    rw [← h3]; have := Blk.new (w.alloc (.cells (cellsS s).toArray 34)) 34 (cellsS zeroS).toArray; simpa using this
  have H3 := Lib.hid hb0
  have HX := Lib.hid hx
  have HZ := Lib.hid hz
  have HRB := Lib.hid (HR.out.below hb0)
  clear hb0 hx hz
  go_enter Tryd.func15, Tryd.ntmps15
  go_wp2_with (first | (with_reducible show wpList _ _ _ (Oper.mk _ (Op.alloc 34) _ _ _ _ :: _) _ _; refine wpList_alloc_any rfl 34 rfl _ zero34e ?_))
  refine (fits_any a n _ (by omega) (by omega) (by omega) (by omega)).mono ?_
  rintro o w' ⟨rfl, rfl⟩
  rw [HF.out]
  clear h3
  by_cases hn0 : n = 0
  · subst hn0
    have hce : ∀ d dLen dCap W, (Builtin.copy_ #[22, 22] 3 #[.slice d dLen dCap, .slice A 0 c]).run Tryd.prog W = .ok (goInt 0) W := fun d dLen dCap W => run_copy_none W 22 22 3 5 d A dLen dCap 0 c Tryd.underlying22 info5s (by simp)
    have e : r = s := HP0.out (List.eq_nil_of_length_eq_zero HN.out.symm)
    subst e
    have HX4 := HX
    have HZ4 := HZ
    have HB4 := H3
    obtain ⟨D, hsl⟩ : ∃ D, ∀ W, (Instr.sliceAt 34 (.pointer (some ⟨w.heap.size, 0, none⟩)) (some (.int .i64 a)) none none).run Tryd.prog W = .ok (.slice D (32 - a) (32 - a)) W := ⟨_, sec_from w.heap.size a (by omega)⟩
    go_wp2_with (first | (with_reducible show wpList _ _ _ (Oper.mk _ (Op.load 34 _) _ _ _ _ :: _) _ _; go_must (refine wpList_load_mid rfl 34 (.tmp 3) rfl w.heap.size 0 rfl (cellsS r) _ (range0 HX4.out) Tryd.underlying34 rfl (by rw [cellsS_len]; exact info34) ?_)) | (with_reducible show wpList _ _ _ (Oper.mk none (Op.store 34 _ _) _ _ _ _ :: _) _ _; go_must (refine wpList_store_blk rfl 34 (.tmp 6) (.tmp 18) rfl (w.heap.size + 1) 0 (cellsS r) rfl rfl 34 (cellsS zeroS).toArray HZ4.out (by rw [List.size_toArray, cellsS_len, cellsS_len]; decide) (by rw [cellsS_len]; exact info34) (cellsS_one _) ?_); intro w5 hb5 hg5 hs5; have HB5 := Lib.hid hb5; have HG5 := Lib.hid hg5; clear hb5 hg5 hs5))
    have hb5 := HB5.out
    rw [spl_full (by rw [cellsS_len, cellsS_len])] at hb5
    exact bodyPost_ret (results_row_tmp (P := Tryd.prog) rfl _ w5 (w.heap.size + 1) 34 _ _ rfl hb5 Tryd.underlying34 rfl (by rw [List.size_toArray, cellsS_len]; exact info34)) rfl ⟨rfl, HB4.out.grown HG5.out HB4.out.size (fun k e => by cases e; omega)⟩
  · have hsl := sec_from w.heap.size a (by omega)
    rw [if_neg (by omega)] at hsl
    obtain ⟨ad, rfl, hb, hc⟩ := HRB.out.2 (by rw [← HN.out]; omega)
    have HL : Hid ((ub bs).length = Nat.min n (32 - a)) := Lib.hid (by rw [ub_len, ← HN.out]; exact (Nat.min_eq_left (by omega)).symm)
    have HFT : Hid (a + (ub bs).length ≤ (cellsS s).length) := Lib.hid (by rw [ub_len, ← HN.out, cellsS_len]; exact h')
    go_wp2_with (first | (with_reducible show wpList _ _ _ (Oper.mk (some 17) _ _ _ _ _ :: _) _ _; go_must (refine wpList_copy_at rfl (.tmp 15) (.tmp 16) 22 22 rfl 5 Tryd.underlying22 info5s w.heap.size a (32 - a) (32 - a) ad n c rfl rfl (cellsS s) 34 HX.out (ub bs) HL.out hc HFT.out (ub_one bs) ?_); go_must (intro w4 hb4 hg4 hs4; rw [← HP.out] at hb4; have HX4 := Lib.hid hb4; have HZ4 := Lib.hid (HZ.out.grown hg4 (some_ne (Nat.succ_ne_self _))); have HB4 := Lib.hid (H3.out.grown hg4 H3.out.size (row_le (Nat.le_refl _))); clear hb4 hg4 hs4)) | (with_reducible show wpList _ _ _ (Oper.mk _ (Op.load 34 _) _ _ _ _ :: _) _ _; go_must (refine wpList_load_mid rfl 34 (.tmp 3) rfl w.heap.size 0 rfl (cellsS r) _ (range0 HX4.out) Tryd.underlying34 rfl (by rw [cellsS_len]; exact info34) ?_)) | (with_reducible show wpList _ _ _ (Oper.mk none (Op.store 34 _ _) _ _ _ _ :: _) _ _; go_must (refine wpList_store_blk rfl 34 (.tmp 6) (.tmp 18) rfl (w.heap.size + 1) 0 (cellsS r) rfl rfl 34 (cellsS zeroS).toArray HZ4.out (by rw [List.size_toArray, cellsS_len, cellsS_len]; decide) (by rw [cellsS_len]; exact info34) (cellsS_one _) ?_); intro w5 hb5 hg5 hs5; have HB5 := Lib.hid hb5; have HG5 := Lib.hid hg5; clear hb5 hg5 hs5))
    have hb5 := HB5.out
    rw [spl_full (by rw [cellsS_len, cellsS_len])] at hb5
    exact bodyPost_ret (results_row_tmp (P := Tryd.prog) rfl _ w5 (w.heap.size + 1) 34 _ _ rfl hb5 Tryd.underlying34 rfl (by rw [List.size_toArray, cellsS_len]; exact info34)) rfl ⟨rfl, HB4.out.grown HG5.out HB4.out.size (fun k e => by cases e; omega)⟩
set_option maxHeartbeats 1000000 in
theorem put_no (s : Sec) (a : Int) (A : Option Addr) (n c : Nat) (w : World) (h1 : a ≤ 9223372036854775807) (h2 : -9223372036854775808 ≤ a) (hn : n ≤ 1000000) (h : fitsB a n = false) :
    Calls Tryd.prog 15 #[.agg (cellsS s).toArray, .int .i64 a, .slice A n c] w (PutTo w s false) := by
  have HF := Lib.hid h
  clear h
  obtain ⟨w3, h3⟩ : ∃ w3, (w.alloc (.cells (cellsS s).toArray 34)).alloc (.cells (cellsS zeroS).toArray 34) = w3 := ⟨_, rfl⟩
  have hb0 : Below w.heap.size w w3 := by rw [← h3]; exact ((Below.refl _ w).alloc (Nat.le_refl _) _).alloc (by simp) _
  have hx : Blk w3 w.heap.size 34 (cellsS s).toArray := by rw [← h3]; exact (Blk.new w 34 _).alloc _
  have hz : Blk w3 (w.heap.size + 1) 34 (cellsS zeroS).toArray := by
    rw [← h3]; have := Blk.new (w.alloc (.cells (cellsS s).toArray 34)) 34 (cellsS zeroS).toArray; simpa using this
  have H3 := Lib.hid hb0
  have HX := Lib.hid hx
  have HZ := Lib.hid hz
  clear hb0 hx hz
  go_enter Tryd.func15, Tryd.ntmps15
  go_wp2_with (first | (with_reducible show wpList _ _ _ (Oper.mk _ (Op.alloc 34) _ _ _ _ :: _) _ _; refine wpList_alloc_any rfl 34 rfl _ zero34e ?_))
  refine (fits_any a n _ h1 h2 (by omega) (by omega)).mono ?_
  rintro o w' ⟨rfl, rfl⟩
  rw [HF.out]
  clear h3
  go_wp2_with (first | (with_reducible show wpList _ _ _ (Oper.mk _ (Op.load 34 _) _ _ _ _ :: _) _ _; go_must (refine wpList_load_mid rfl 34 (.tmp 3) rfl w.heap.size 0 rfl (cellsS s) _ (range0 HX.out) Tryd.underlying34 rfl (by rw [cellsS_len]; exact info34) ?_)) | (with_reducible show wpList _ _ _ (Oper.mk none (Op.store 34 _ _) _ _ _ _ :: _) _ _; go_must (refine wpList_store_blk rfl 34 (.tmp 6) (.tmp 13) rfl (w.heap.size + 1) 0 (cellsS s) rfl rfl 34 (cellsS zeroS).toArray HZ.out (by rw [List.size_toArray, cellsS_len, cellsS_len]; decide) (by rw [cellsS_len]; exact info34) (cellsS_one _) ?_); intro w5 hb5 hg5 hs5; have HB5 := Lib.hid hb5; have HG5 := Lib.hid hg5; clear hb5 hg5 hs5))
  have hb5 := HB5.out
  rw [spl_full (by rw [cellsS_len, cellsS_len])] at hb5
  exact bodyPost_ret (results_row_tmp (P := Tryd.prog) rfl _ w5 (w.heap.size + 1) 34 _ _ rfl hb5 Tryd.underlying34 rfl (by rw [List.size_toArray, cellsS_len]; exact info34)) rfl ⟨rfl, H3.out.grown HG5.out H3.out.size (fun k e => by cases e; omega)⟩
def ofS (bs : List Int) : Sec := if h : 0 + bs.length ≤ 32 then putS zeroS 0 bs h else zeroS
theorem put_of (A : Option Addr) (c : Nat) (bs : List Int) (w : World) (hn : bs.length ≤ 1000000) (hr : Reads w w.heap.size 1 A bs.length (ub bs)) :
    Calls Tryd.prog 15 #[.agg (cellsS zeroS).toArray, .int .i64 0, .slice A bs.length c] w (PutTo w (ofS bs) (decide (bs.length ≤ 32))) := by
  unfold ofS
  by_cases h : 0 + bs.length ≤ 32
  · rw [dif_pos h, decide_eq_true (by omega)]
    exact put_yes zeroS 0 A c bs w h hr
  · rw [dif_neg h, decide_eq_false (by omega)]
    exact put_no zeroS 0 A bs.length c w (by omega) (by omega) hn (by simp [fitsB]; omega)
set_option maxHeartbeats 1000000 in
theorem of_any (A : Option Addr) (c : Nat) (bs : List Int) (w : World) (hn : bs.length ≤ 1000000) (hr : Reads w w.heap.size 1 A bs.length (ub bs)) :
    Calls Tryd.prog 17 #[.slice A bs.length c] w (PutTo w (ofS bs) (decide (bs.length ≤ 32))) := by
  obtain ⟨w3, h3⟩ : ∃ w3, w.alloc (.cells (cellsS zeroS).toArray 34) = w3 := ⟨_, rfl⟩
  have hb0 : Below w.heap.size w w3 := by rw [← h3]; exact (Below.refl _ w).alloc (Nat.le_refl _) _
  have hz : Blk w3 w.heap.size 34 (cellsS zeroS).toArray := by rw [← h3]; exact Blk.new w 34 _
  have hs3 : w.heap.size + 1 = w3.heap.size := by rw [← h3]; simp
  have HS3 := Lib.hid hs3
  have H3 := Lib.hid hb0
  have HZ := Lib.hid hz
  have HR : Hid (Reads w3 w3.heap.size 1 A bs.length (ub bs)) := Lib.hid ((hr.below hb0).more (by omega))
  obtain ⟨D, hD⟩ : ∃ D, D = decide (bs.length ≤ 32) := ⟨_, rfl⟩
  have HD := Lib.hid hD
  rw [← hD]
  obtain ⟨n, hnn⟩ : ∃ n, n = bs.length := ⟨_, rfl⟩
  have HN := Lib.hid hnn
  rw [← hnn] at hn ⊢
  clear hb0 hz hr hD hnn hs3
  go_enter Tryd.func17, Tryd.ntmps17
  go_wp2_with (first | (with_reducible show wpList _ _ _ (Oper.mk _ (Op.alloc 34) _ _ _ _ :: _) _ _; refine wpList_alloc_any rfl 34 rfl _ zero34e ?_) | (with_reducible show wpList _ _ _ (Oper.mk _ (Op.build 34 _) _ _ _ _ :: _) _ _; go_must (refine wpList_build_nil rfl 34 rfl _ built34 ?_)))
  have hp := put_of A c bs w3 (by rw [← HN.out]; exact hn) HR.out
  rw [← HN.out, show decide (n ≤ 32) = D by rw [HD.out, HN.out]] at hp
  refine hp.mono ?_
  rintro o w' ⟨rfl, hb'⟩
  have HZ4 := Lib.hid (HZ.out.below hb' (by have := HS3.out; omega))
  have HB4 := Lib.hid (H3.out.trans (hb'.mono (by have := HS3.out; omega)))
  clear hb' hp h3
  go_wp2_with ((with_reducible show wpList _ _ _ (Oper.mk none (Op.store 34 _ _) _ _ _ _ :: _) _ _; go_must (refine wpList_store_blk rfl 34 (.tmp 2) (.tmp 7) rfl w.heap.size 0 (cellsS (ofS bs)) rfl rfl 34 (cellsS zeroS).toArray HZ4.out (by rw [List.size_toArray, cellsS_len, cellsS_len]; decide) (by rw [cellsS_len]; exact info34) (cellsS_one _) ?_); intro w5 hb5 hg5 hs5; have HB5 := Lib.hid hb5; have HG5 := Lib.hid hg5; clear hb5 hg5 hs5))
  have hb5 := HB5.out
  rw [spl_full (by rw [cellsS_len, cellsS_len])] at hb5
  exact bodyPost_ret (results_row_tmp (P := Tryd.prog) rfl _ w5 w.heap.size 34 _ _ rfl hb5 Tryd.underlying34 rfl (by rw [List.size_toArray, cellsS_len]; exact info34)) rfl ⟨rfl, HB4.out.grown HG5.out HB4.out.size (fun k e => by cases e; omega)⟩
end Go.Proofs.YtikhhipgamllgaaDoor
