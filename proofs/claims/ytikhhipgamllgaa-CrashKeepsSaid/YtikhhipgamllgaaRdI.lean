/- The iterator of slices.Backward over writes. Conditions: few writes. (*Disk).Read. Conditions: few writes. -/
import Derived.Test.YtikhhipgamllgaaBarr
import Derived.Test.YtikhhipgamllgaaAll
import Derived.Laws.ResultCell
namespace Go.Proofs.Ytikhhipgamllgaa
open Go.RowKit Go.Shelf
section
variable {F : Fence} {n : Nat} {P : Program} {w w' : World} {a : Act} {o : Oper} {ops : Array Oper} {rest : List Oper} {Q : Exit → Act → World → Prop}
theorem about_none (hnc : ∀ c, o.op ≠ .call c) : o.about P w a.eval = none := by
  unfold Oper.about
  split
  · next c h => exact absurd h (hnc c)
  · rfl
theorem wpListIn_run (hgd : o.guard = none) (hnc : ∀ c, o.op ≠ .call c) (hnd : ∀ c, o.op ≠ .defer c) (V : Value) (w' : World) (h : (execOp a.eval o).run P w = .ok (.value V) w') (hk : wpListIn F n P ops Q rest (a.put o.dst V) w') : wpListIn F n P ops Q (o :: rest) a w :=
  wpListIn_plain hgd fun K hK => by
    unfold Oper.wpIn
    refine ⟨fun f hf => ?_, ?_⟩
    · rw [about_none hnc] at hf; cases hf
    · rw [Oper.semAt_plain _ _ _ hnd, h]; exact hK _ _ hk
theorem wpListIn_done (hgd : o.guard = none) (hnc : ∀ c, o.op ≠ .call c) (hnd : ∀ c, o.op ≠ .defer c) (w' : World) (h : (execOp a.eval o).run P w = .ok .skip w') (hk : wpListIn F n P ops Q rest (a.put o.dst undef) w') : wpListIn F n P ops Q (o :: rest) a w :=
  wpListIn_plain hgd fun K hK => by
    unfold Oper.wpIn
    refine ⟨fun f hf => ?_, ?_⟩
    · rw [about_none hnc] at hf; cases hf
    · rw [Oper.semAt_plain _ _ _ hnd, h]; exact hK _ _ hk
theorem exec_alloc {t : TypeId} {V : Value} (ho : o.op = .alloc t) (h : (Instr.alloc t true (.tuple #[])).run P w = .ok V w') : (execOp a.eval o).run P w = .ok (.value V) w' := by
  unfold execOp; simp only [ho, h, Sem.run_bind, Result.andThen_ok, Sem.run_pure]
theorem wpListIn_alloc {t : TypeId} {V : Value} (hgd : o.guard = none) (ho : o.op = .alloc t) (h : (Instr.alloc t true (.tuple #[])).run P w = .ok V w') (hk : wpListIn F n P ops Q rest (a.put o.dst V) w') : wpListIn F n P ops Q (o :: rest) a w :=
  wpListIn_run hgd (by rw [ho]; intro c h; cases h) (by rw [ho]; intro c h; cases h) _ _ (exec_alloc ho h) hk
theorem wpListIn_store {t : TypeId} {x y : Operand} {X Y : Value} (hgd : o.guard = none) (ho : o.op = .store t x y) (hx : a.eval x = X) (hy : a.eval y = Y) (h : (Instr.storeAt t X Y).run P w = .ok () w') (hk : wpListIn F n P ops Q rest (a.put o.dst undef) w') : wpListIn F n P ops Q (o :: rest) a w :=
  wpListIn_done hgd (by rw [ho]; intro c h; cases h) (by rw [ho]; intro c h; cases h) _ (Ph.run_store ho hx hy h) hk
theorem exec_load {t : TypeId} {x : Operand} {b i : Nat} {cs : List Value} {d : TypeDesc} (ho : o.op = .load t x) (hx : a.eval x = .pointer (some ⟨b, i, none⟩)) (hc : w.rangeAt b i cs) (hu : P.underlying t = some d) (hd : d.isRow = true) (hi : (P.info? t).map (·.size) = some cs.length) :
    (execOp a.eval o).run P w = .ok (.value (.agg cs.toArray)) w := Ph.run_load ho hx (run_loadAt_mid w b i t cs d hc hu hd hi)
theorem wpListIn_load {t : TypeId} {x : Operand} {b i : Nat} {cs : List Value} {d : TypeDesc} (hgd : o.guard = none) (ho : o.op = .load t x) (hx : a.eval x = .pointer (some ⟨b, i, none⟩)) (hc : w.rangeAt b i cs) (hu : P.underlying t = some d) (hd : d.isRow = true) (hi : (P.info? t).map (·.size) = some cs.length)
    (hk : wpListIn F n P ops Q rest (a.put o.dst (.agg cs.toArray)) w) : wpListIn F n P ops Q (o :: rest) a w :=
  wpListIn_run hgd (by rw [ho]; intro c h; cases h) (by rw [ho]; intro c h; cases h) _ _ (exec_load ho hx hc hu hd hi) hk
end
/-- the numbers from n - 1 down to k -/
def rv (n k : Nat) : List Nat := ((List.range n).drop k).reverse
theorem rv_all (n : Nat) : rv n n = [] := by simp [rv]
theorem rv_step {n k : Nat} (h : k < n) : rv n k = rv n (k + 1) ++ [k] := by
  unfold rv
  have hl : k < (List.range n).length := by simpa using h
  rw [List.drop_eq_getElem_cons hl, List.reverse_cons, List.getElem_range]
theorem rv_len (n k : Nat) : (rv n k).length = n - k := by simp [rv]
theorem rv_pre (n k : Nat) : rv n k <+: rv n 0 := by
  refine ⟨((List.range n).take k).reverse, ?_⟩
  unfold rv
  rw [← List.reverse_append, List.take_append_drop, List.drop_zero]
/-- what is yielded -/
def bkE (ws : List Wr) (x : Nat) : Array Value := #[.int .i64 (x : Nat), .agg (cellsW (ws.getD x zeroWr)).toArray]
set_option maxHeartbeats 2000000 in
theorem back1_in (a b e0 : Nat) (l bs n c : Nat) (A : Option Addr) (ws : List Wr) (J Jx : List Nat → World → Prop) (W : World) (hn8 : n ≤ 1000) (hlen : n = ws.length)
    (hY : ∀ pre x W1, J pre W1 → pre.length < n → YieldAt Fence.wide 3 Try.prog l (bkE ws x) W1 fun e W' =>
      (e = .returned (.bool true) ∧ J (pre ++ [x]) W' ∧ KeepB a b e0 W1 W') ∨ (e = .returned (.bool false) ∧ Jx (pre ++ [x]) W'))
    (hbs : b ≤ bs ∧ bs < e0) (h1 : W.cell? ⟨bs, 0, none⟩ = some (.slice A n c))
    (hr : ∀ W', KeepB a b e0 W W' → Reads W' a 36 A n (ws.flatMap cellsW)) (h0 : J [] W) :
    CallsIn Fence.wide 4 Try.prog 112 #[.func (.yield l) #[] #[], .pointer (some ⟨bs, 0, none⟩)] W fun e W' => (∃ v, e = .returned v) ∧
      ((∃ ys, ys = rv n 0 ∧ J ys W') ∨ (∃ pre, pre <+: rv n 0 ∧ Jx pre W')) := by
  have HY := Lib.hid hY
  have HR := Lib.hid hr
  have HL := Lib.hid hlen
  have HH1 := Lib.hid h1
  clear hY hr hlen h1
  refine callsIn_of_wp Try.func112 rfl trivial ?_ rfl
  simp only [Try.ntmps112, List.size_toArray, List.length_cons, List.length_nil, Nat.reduceAdd, Nat.reduceSub, Array.replicate_succ, Array.replicate_zero, List.push_toArray, List.append_toArray, List.nil_append, List.cons_append]
  have hc1 := HH1.out
  have hsub : wrap64 ((n : Int) - 1) = (n : Int) - 1 := by unfold wrap64; omega
  gi_wp2
  clear hc1 hsub
  gi_loopw [3] (fun i wr => ∃ (k : Nat) (z : Int), k ≤ n ∧ i = .int .i64 z ∧ z = (k : Int) - 1 ∧ Hid (J (rv n k) wr) ∧ Hid (KeepB a b e0 W wr)) (fun i _ => (intOf i + 1).toNat)
  case atStart => exact ⟨n, (n : Int) - 1, by omega, rfl, rfl, Lib.hid (by rw [rv_all]; exact h0), Lib.hid (KeepB.refl _ _ _ _)⟩
  case round =>
    obtain ⟨k, z, hk, rfl, hz, HJ, HK⟩ := hrel
    rcases k with _ | k
    · have hd : decide (z ≥ 0) = false := by simp; omega
      clear hz
      gi_wp2
      go_end0
      exact ⟨⟨_, rfl⟩, .inl ⟨_, rfl, HJ.out⟩⟩
    · obtain rfl : z = (k : Int) := by omega
      clear hz
      have hc1 : wr.cell? ⟨bs, 0, none⟩ = some (.slice A n c) := (HK.out.cell hbs).trans HH1.out
      have hrd := HR.out wr HK.out
      have hl := HL.out
      rw [hl] at hrd
      obtain ⟨bb, oo, rfl, _, hit⟩ := hrd.item (f := cellsW) cellsW_len (by omega) (show k < ws.length by omega)
      have hx : ws[k]? = some (ws.getD k zeroWr) := by rw [List.getD_eq_getElem?_getD, List.getElem?_eq_getElem (by omega)]; rfl
      have hI := hit k _ hx
      obtain ⟨fn, tmps, assign, body, hy, hR⟩ := HY.out (rv n (k + 1)) k wr HJ.out (by rw [rv_len]; omega)
      unfold bkE at hy
      obtain ⟨y, hye⟩ : ∃ y, y = ws.getD k zeroWr := ⟨_, rfl⟩
      rw [← hye] at hI hy
      have HI := Lib.hid hI
      have HRR := Lib.hid hR
      have hge : decide ((k : Int) ≥ 0) = true := by simp
      have hkn : k < n := by omega
      have hkl : (k : Int) < (n : Int) := by omega
      have hsub : wrap64 ((k : Int) - 1) = (k : Int) - 1 := by unfold wrap64; omega
      clear hR hI hit hrd hx hye hl
      gi_wp2_with (first | (with_reducible show wpListIn _ _ _ _ _ (Oper.mk _ (Op.load 108 _) _ _ _ _ :: _) _ _; go_must (refine wpListIn_load (b := bb) (i := oo + k * 36) (cs := cellsW y) rfl rfl rfl HI.out Try.underlying108 rfl (by rw [cellsW_len]; exact info108) ?_)))
      refine HRR.out.mono ?_
      rintro e W3 (⟨rfl, hJ3, hk3⟩ | ⟨rfl, hJx3⟩)
      · have HJ3 := Lib.hid hJ3
        have HK3 := Lib.hid hk3
        clear hJ3 hk3
        gi_wp2
        refine ⟨⟨k, (k : Int) - 1, by omega, rfl, rfl, Lib.hid (by rw [rv_step hkn]; exact HJ3.out), Lib.hid (HK.out.trans HK3.out)⟩, ?_⟩
        simp [intOf]
      · have HJ3 := Lib.hid hJx3
        clear hJx3
        gi_wp2
        refine bodyPost_ret (results_none rfl _ _ _) rfl ?_
        exact ⟨⟨_, rfl⟩, .inr ⟨rv n (k + 1) ++ [k], by rw [← rv_step hkn]; exact rv_pre n k, HJ3.out⟩⟩
theorem back_stops (a b : Nat) (bs n c : Nat) (A : Option Addr) (ws : List Wr) (w : World) (hn8 : n ≤ 1000) (hlen : n = ws.length) (hbs : b ≤ bs) (ha : a ≤ b)
    (h1 : Blk w bs 41 #[.slice A n c]) (hr : Reads w a 36 A n (ws.flatMap cellsW)) :
    SeqStopsK Fence.wide 4 Try.prog 112 #[.pointer (some ⟨bs, 0, none⟩)] (bkE ws) (KeepB a b w.heap.size) (fun ys => ys = rv n 0) (fun pre => pre <+: rv n 0) n w := fun l J Jx W hW _ _ hY h0 =>
  back1_in a b w.heap.size l bs n c A ws J Jx W hn8 hlen hY ⟨hbs, h1.lt⟩ ((h1.below hW h1.lt).cell 0)
    (fun W' hk => by
      have h4 : KeepB a b w.heap.size w W' := (KeepB.of_below hW (Nat.le_trans ha (Nat.le_trans hbs (Nat.le_of_lt h1.lt)))).trans hk
      exact hr.keep fun p hp => World.cell?_of_block (h4 p.block (.inl hp))) h0
theorem backward_any (A : Option Addr) (n c : Nat) (w : World) :
    Calls Try.prog 92 #[.slice A n c] w fun o w' => o = .returned (.func (.func 112) #[] #[.pointer (some ⟨w.heap.size, 0, none⟩)]) ∧ w' = w.alloc (.cells #[.slice A n c] 41) := by
  go_enter Try.func92, Try.ntmps92
  go_wp2
  go_ret
  exact ⟨rfl, rfl⟩
end Go.Proofs.Ytikhhipgamllgaa
namespace Go.Proofs.Ytikhhipgamllgaa
open Go.RowKit Go.Shelf
attribute [local go_sem] Oper.semAt_some
/-- what was written last to a sector -/
def lastAt : List Wr → Int → Option Sec
  | [], _ => none
  | x :: r, at_ => match lastAt r at_ with
    | some s => some s
    | none => if x.at_ = at_ then some x.s else none
theorem lastAt_none {ws : List Wr} {at_ : Int} (h : ∀ z ∈ ws, z.at_ ≠ at_) : lastAt ws at_ = none := by
  induction ws with
  | nil => rfl
  | cons x r ih =>
    rw [lastAt, ih (fun z hz => h z (List.mem_cons_of_mem _ hz))]
    simp [h x (by simp)]
theorem lastAt_some {at_ : Int} : ∀ {ws : List Wr} {x : Nat} {y : Wr}, ws[x]? = some y → y.at_ = at_ → (∀ j z, x < j → ws[j]? = some z → z.at_ ≠ at_) → lastAt ws at_ = some y.s
  | [], x, y, h, _, _ => by simp at h
  | u :: r, 0, y, h, hy, hn => by
    have hu : u = y := by simpa using h
    subst hu
    rw [lastAt, lastAt_none (fun z hz => by
      obtain ⟨i, hi, rfl⟩ := List.getElem_of_mem hz
      exact hn (i + 1) r[i] (by omega) (by simp [hi]))]
    simp [hy]
  | u :: r, x + 1, y, h, hy, hn => by
    rw [lastAt, lastAt_some (x := x) (by simpa using h) hy (fun j z hj hz => hn (j + 1) z (by omega) (by simpa using hz))]
def Dk.read (D : Dk) (at_ : Int) : Sec × Int := if atIn at_ D.safe.length then ((lastAt D.wait at_).getD (D.safe.getD at_.toNat zeroSec), 0) else (zeroSec, 1)
theorem results_two {P : Program} {fn : Func} {p q : Tmp} {ty tq : TypeId} (h : fn.results = #[.cell p ty, .cell q tq]) (tmps : Array Value) (w : World) (g g2 : Nat) (t : TypeId) (cs : Array Value) (d : TypeDesc) (v : Value)
    (hp : tmps.getD p undef = .pointer (some ⟨g, 0, none⟩)) (hq : tmps.getD q undef = .pointer (some ⟨g2, 0, none⟩)) (hg : Blk w g t cs)
    (hu : P.underlying ty = some d) (hd : (match d with | .struct _ | .array _ _ => true | _ => false) = true) (hi : (P.info? ty).map (·.size) = some cs.size)
    (h2 : (loadVar tq ⟨g2, 0, none⟩).run P w = .ok v w) :
    (results fn tmps).run P w = .ok (.tuple #[.agg cs, v]) w := by
  have hp' : tmps[p]?.getD undef = .pointer (some ⟨g, 0, none⟩) := by simpa using hp
  have hq' : tmps[q]?.getD undef = .pointer (some ⟨g2, 0, none⟩) := by simpa using hq
  simp [results, h, hp', hq', asAddr, run_loadVar_row w g t ty cs (0, 0) d hg hu hd hi, h2]
theorem st61 {W : World} {g i : Nat} {u : Value} {z : Int} (h : W.cell? ⟨g, i, none⟩ = some u) (hf : W.frozen? ⟨g, i, none⟩ = false) : (Instr.storeAt 61 (.pointer (some ⟨g, i, none⟩)) (.int .i64 z)).run Try.prog W = .ok () (W.setCell ⟨g, i, none⟩ (.int .i64 z)) := by go_simp
theorem lv61 {W : World} {g i : Nat} {v : Value} (h : W.cell? ⟨g, i, none⟩ = some v) : (loadVar 61 ⟨g, i, none⟩).run Try.prog W = .ok v W := by go_simp
theorem alloc108 (w : World) : (Instr.alloc 108 true (.tuple #[])).run Try.prog w = .ok (.pointer (some ⟨w.heap.size, 0, none⟩)) (w.alloc (.cells (cellsW zeroWr).toArray 108)) := by kernel_rfl
theorem store108 (w : World) (s t : Wr) : (Instr.storeAt 108 (.pointer (some ⟨w.heap.size, 0, none⟩)) (.agg (cellsW s).toArray)).run Try.prog (w.alloc (.cells (cellsW t).toArray 108)) = .ok () (w.alloc (.cells (cellsW s).toArray 108)) :=
  run_storeAt_new (P := Try.prog) w 108 (cellsW t).toArray (cellsW s).toArray (by rw [List.size_toArray, cellsW_len]; exact info108) (by simp [cellsW_len]) (all_oneCell_toArray (cellsW_one s))
theorem built66 : Try.prog.built 66 [] = some (cellsS zeroSec).toArray := by kernel_rfl
theorem mkS0 (w : World) : (Instr.build 66 #[]).run Try.prog w = .ok (.agg (cellsS zeroSec).toArray) w := by kernel_rfl
theorem zero66e : (Try.prog.info? 66).map (fun i => i.zero) = some (some (.agg (cellsS zeroSec).toArray)) := by kernel_rfl
theorem run_build0 {P : Program} {o : Oper} {a : Act} {w : World} {t : TypeId} {V : Value} (ho : o.op = .build t #[]) (h : (Instr.build t #[]).run P w = .ok V w) : (execOp a.eval o).run P w = .ok (.value V) w :=
  Ph.run_build ho (by simp) h
theorem wpList_done {P : Program} {w : World} {ops : Array Oper} {rest : List Oper} {o : Oper} {a : Act} {Q : Exit → Act → World → Prop} (hgd : o.guard = none) (w' : World) (h : (execOp a.eval o).run P w = .ok .skip w') (hk : wpList P ops Q rest (a.put o.dst undef) w') : wpList P ops Q (o :: rest) a w :=
  wpList_plain hgd fun _ hK => by
    unfold Oper.wp
    rw [h]
    exact hK _ _ hk
section
variable {w : World} {F : Nat → Prop} {g : Nat} {D : Dk} {bv sv wv lv : Value}
def ReadTo (w : World) (r : Sec × Int) (o : Ending) (w' : World) : Prop := o = .returned (.tuple #[.agg (cellsS r.1).toArray, .int .i64 r.2]) ∧ Below w.heap.size w w'
/-- Read of a sector that is not there -/
theorem read_out (p : Option Addr) (at_ : Int) (w : World) (CH : ∀ W, Below w.heap.size w W → Calls Try.prog 87 #[.pointer p, .int .i64 at_] W fun o w' => o = .returned (.bool false) ∧ w' = W) :
    Calls Try.prog 50 #[.pointer p, .int .i64 at_] w (ReadTo w (zeroSec, 1)) := by
  obtain ⟨w3, h3⟩ : ∃ w3, ((w.alloc (.cells #[.int .i64 at_] 3)).alloc (.cells (cellsS zeroSec).toArray 66)).alloc (.cells #[.int .i64 0] 61) = w3 := ⟨_, rfl⟩
  have hb3 : Below w.heap.size w w3 := by rw [← h3]; exact (((Below.refl _ w).alloc (Nat.le_refl _) _).alloc (by simp) _).alloc (by simp; omega) _
  have b0 : Boxed w3 w.heap.size 3 (.int .i64 at_) := by rw [← h3]; exact ((Boxed.new w 3 _).alloc _).alloc _
  have b1 : Blk w3 (w.heap.size + 1) 66 (cellsS zeroSec).toArray := by
    rw [← h3]; have := (Blk.new (w.alloc (.cells #[.int .i64 at_] 3)) 66 (cellsS zeroSec).toArray).alloc (.cells #[.int .i64 0] 61); simpa using this
  have b2 : Boxed w3 (w.heap.size + 1 + 1) 61 (.int .i64 0) := by
    rw [← h3]; have := Boxed.new ((w.alloc (.cells #[.int .i64 at_] 3)).alloc (.cells (cellsS zeroSec).toArray 66)) 61 (.int .i64 0); simpa using this
  have hc0 := b0.cell
  obtain ⟨w4, hst, b14, hg4, hs4⟩ := stBlk (ty := 66) b1 (new := cellsS zeroSec) (by simp) (by rw [cellsS_len]; exact info66) (cellsS_one _)
  have b24 : Boxed w4 (w.heap.size + 1 + 1) 61 (.int .i64 0) := b2.kept hg4 (fun e => by have := Option.some.inj e; omega)
  have hst2 := st61 (z := 1) b24.cell b24.frozen
  have HST := Lib.hid hst
  have HST2 := Lib.hid hst2
  have HB3 := Lib.hid hb3
  have H24 := Lib.hid b24
  have H14 := Lib.hid b14
  have HG4 := Lib.hid hg4
  have HCH := Lib.hid (CH w3 hb3)
  clear b0 b1 b2 hst hst2 hb3 b24 b14 hg4 hs4 CH
  go_enter Try.func50, Try.ntmps50
  go_wp2_with (with_reducible show wpList _ _ _ (Oper.mk _ (Op.alloc 66) _ _ _ _ :: _) _ _; refine wpList_alloc_any rfl 66 rfl _ zero66e ?_)
  clear h3
  refine HCH.out.mono ?_
  rintro o w' ⟨rfl, e⟩
  obtain rfl := e.symm
  go_wp2_with (first | (with_reducible show wpList _ _ _ (Oper.mk _ (Op.build 66 _) _ _ _ _ :: _) _ _; go_must (refine wpList_run rfl _ _ (run_build0 (V := .agg (cellsS zeroSec).toArray) rfl (mkS0 _)) ?_)) | (with_reducible show wpList _ _ _ (Oper.mk none (Op.store 66 _ _) _ _ _ _ :: _) _ _; go_must (refine wpList_done rfl w4 (Ph.run_store (X := .pointer (some ⟨w.heap.size + 1, 0, none⟩)) (Y := .agg (cellsS zeroSec).toArray) rfl rfl rfl HST.out) ?_)) | (with_reducible show wpList _ _ _ (Oper.mk none (Op.store 61 _ _) _ _ _ _ :: _) _ _; go_must (refine wpList_done rfl _ (Ph.run_store (X := .pointer (some ⟨w.heap.size + 1 + 1, 0, none⟩)) (Y := .int .i64 1) rfl rfl rfl HST2.out) ?_)))
  exact bodyPost_ret (results_two (P := Try.prog) rfl _ _ (w.heap.size + 1) (w.heap.size + 1 + 1) 66 _ _ (.int .i64 1) rfl rfl (H14.out.far (by show w.heap.size + 1 ≠ w.heap.size + 1 + 1; omega) _) Try.underlying66 rfl (by rw [List.size_toArray, cellsS_len]; exact info66) (lv61 (H24.out.set _).cell)) rfl ⟨rfl, ((HB3.out.grown HG4.out HB3.out.size (fun k e => by cases e; omega))).setCell (p := ⟨w.heap.size + 1 + 1, 0, none⟩) (by show w.heap.size ≤ w.heap.size + 1 + 1; omega) _⟩
end
end Go.Proofs.Ytikhhipgamllgaa
