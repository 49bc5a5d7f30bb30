/- flotsamlaw05.step: an act, done to both. Conditions: in each theorem. -/
/- Printed by our own program (wip/rb/mk_plays.py, step.tpl). flotsamlaw05.step: an act that says which events fail, or one that only reads. Conditions: in each theorem. BdiskPlays' states: both disks after a step; both, and a clone beside them. Conditions: in each theorem. BdiskPlays returns true. Conditions: the acts' parts are there, and fit their kinds. -/
/- Printed by our own program (wip/rb/mk_plays.py, plays.tpl). -/
import Derived.Test.YtikhhipgamllgaaFailB
namespace Go.Proofs.Ytikhhipgamllgaa
open Go.RowKit Ph
set_option linter.unusedVariables false
theorem cf45 (args : Array Value) (w : World) : (callFunc 45 args).run Try.prog w = .ok (.enter 45 args) w := by kernel_rfl
theorem cf94 (args : Array Value) (w : World) : (callFunc 94 args).run Try.prog w = .ok (.enter 94 args) w := by kernel_rfl
theorem cf43 (args : Array Value) (w : World) : (callFunc 43 args).run Try.prog w = .ok (.enter 43 args) w := by kernel_rfl
theorem cf48 (args : Array Value) (w : World) : (callFunc 48 args).run Try.prog w = .ok (.enter 48 args) w := by kernel_rfl
theorem cf95 (args : Array Value) (w : World) : (callFunc 95 args).run Try.prog w = .ok (.enter 95 args) w := by kernel_rfl
theorem args_four {a : Act} {x y z u : Operand} {X Y Z U : Value} (hx : a.eval x = X) (hy : a.eval y = Y) (hz : a.eval z = Z) (hu : a.eval u = U) : (#[x, y, z, u] : Array Operand).map a.eval = #[X, Y, Z, U] := by simp [hx, hy, hz, hu]
theorem eqlSame (v : Int) (W : World) : (binOp .eql 3 (.int .i64 v) (.int .i64 v)).run Try.prog W = .ok (.bool true) W := by rw [eqlI, decide_eq_true rfl]
section
variable {w0 W : World} {g1 g2 b5 : Nat} {a : Ac} {D : Dk} {R : Rk}
theorem St.drew_ (h : St w0 g1 g2 b5 a D R W) : St w0 g1 g2 b5 a D R W.drew := h.grow (Below.refl _ W).drew
def SyncJ (w0 : World) (g1 g2 b5 : Nat) (a : Ac) (P : Dk → Rk → Prop) (W : World) : Prop := ∃ D1 R1, P D1 R1 ∧ St w0 g1 g2 b5 a D1 R1 W
theorem sync_tags {P : Dk → Rk → Prop} (h : SyncJ w0 g1 g2 b5 a P W) : W.cell? ⟨b5, 36, none⟩ = some (.slice a.tA a.ts.length a.tc) := by
  obtain ⟨_, _, _, hs⟩ := h
  exact hs.tags
end
def swA0 (g1 g2 b5 : Nat) (a : Ac) (v : Int) : Lvs :=
  [eqv (.pointer (some ⟨g1, 0, none⟩)),
   eqv (.pointer (some ⟨b5, 1, none⟩)),
   eqv (.int .i64 a.at_),
   eqv (.pointer (some ⟨b5, 2, none⟩)),
   eqv (.agg (cellsS a.s).toArray),
   eqv (.pointer (some ⟨b5, 34, none⟩)),
   eqv (.agg (cellsT a.t).toArray),
   fun _ _ => False,
   fun _ _ => False,
   eqv (.pointer (some ⟨g2, 0, none⟩)),
   eqv (.pointer (some ⟨b5, 1, none⟩)),
   eqv (.int .i64 a.at_),
   eqv (.pointer (some ⟨b5, 2, none⟩)),
   eqv (.agg (cellsS a.s).toArray),
   eqv (.pointer (some ⟨b5, 34, none⟩)),
   eqv (.agg (cellsT a.t).toArray),
   fun _ _ => False,
   fun _ _ => False,
   fun _ _ => False,
   fun _ _ => False]
def swA1 (g1 g2 b5 : Nat) (a : Ac) (v : Int) : Lvs :=
  [eqv (.pointer (some ⟨g1, 0, none⟩)),
   eqv (.pointer (some ⟨b5, 1, none⟩)),
   eqv (.int .i64 a.at_),
   eqv (.pointer (some ⟨b5, 2, none⟩)),
   eqv (.agg (cellsS a.s).toArray),
   eqv (.pointer (some ⟨b5, 34, none⟩)),
   eqv (.agg (cellsT a.t).toArray),
   eqv (.int .i64 v),
   fun _ _ => False,
   eqv (.pointer (some ⟨g2, 0, none⟩)),
   eqv (.pointer (some ⟨b5, 1, none⟩)),
   eqv (.int .i64 a.at_),
   eqv (.pointer (some ⟨b5, 2, none⟩)),
   eqv (.agg (cellsS a.s).toArray),
   eqv (.pointer (some ⟨b5, 34, none⟩)),
   eqv (.agg (cellsT a.t).toArray),
   fun _ _ => False,
   fun _ _ => False,
   fun _ _ => False,
   fun _ _ => False]
def swA2 (g1 g2 b5 : Nat) (a : Ac) (v : Int) : Lvs :=
  [eqv (.pointer (some ⟨g1, 0, none⟩)),
   eqv (.pointer (some ⟨b5, 1, none⟩)),
   eqv (.int .i64 a.at_),
   eqv (.pointer (some ⟨b5, 2, none⟩)),
   eqv (.agg (cellsS a.s).toArray),
   eqv (.pointer (some ⟨b5, 34, none⟩)),
   eqv (.agg (cellsT a.t).toArray),
   eqv (.int .i64 v),
   eqv (.int .i64 v),
   eqv (.pointer (some ⟨g2, 0, none⟩)),
   eqv (.pointer (some ⟨b5, 1, none⟩)),
   eqv (.int .i64 a.at_),
   eqv (.pointer (some ⟨b5, 2, none⟩)),
   eqv (.agg (cellsS a.s).toArray),
   eqv (.pointer (some ⟨b5, 34, none⟩)),
   eqv (.agg (cellsT a.t).toArray),
   fun _ _ => False,
   fun _ _ => False,
   fun _ _ => False,
   fun _ _ => False]
def swA3 (g1 g2 b5 : Nat) (a : Ac) (v : Int) : Lvs :=
  [eqv (.pointer (some ⟨g1, 0, none⟩)),
   eqv (.pointer (some ⟨b5, 1, none⟩)),
   eqv (.int .i64 a.at_),
   eqv (.pointer (some ⟨b5, 2, none⟩)),
   eqv (.agg (cellsS a.s).toArray),
   eqv (.pointer (some ⟨b5, 34, none⟩)),
   eqv (.agg (cellsT a.t).toArray),
   eqv (.int .i64 v),
   eqv (.int .i64 v),
   eqv (.pointer (some ⟨g2, 0, none⟩)),
   eqv (.pointer (some ⟨b5, 1, none⟩)),
   eqv (.int .i64 a.at_),
   eqv (.pointer (some ⟨b5, 2, none⟩)),
   eqv (.agg (cellsS a.s).toArray),
   eqv (.pointer (some ⟨b5, 34, none⟩)),
   eqv (.agg (cellsT a.t).toArray),
   eqv (.int .i64 v),
   eqv (.int .i64 v),
   eqv (.bool true),
   eqv (.bool true)]
theorem swA_keep (g1 g2 b5 : Nat) (a : Ac) (v : Int) : ∀ L ∈ [swA0 g1 g2 b5 a v, swA1 g1 g2 b5 a v, swA2 g1 g2 b5 a v, swA3 g1 g2 b5 a v], ∀ q ∈ L, Keeps (fun _ _ => True) q := by
  simp only [swA0, swA1, swA2, swA3, List.forall_mem_cons]
  refine ⟨?_, ?_, ?_, ?_, by simp⟩
  all_goals
    repeat (first | refine ⟨keep_eqv _ _, ?_⟩ | refine ⟨keep_pure _ _, ?_⟩)
    simp
theorem swA_turns (g1 g2 b5 : Nat) (a : Ac) (v : Int) : TurnsAll [swA0 g1 g2 b5 a v, swA1 g1 g2 b5 a v, swA2 g1 g2 b5 a v, swA3 g1 g2 b5 a v] := by
  simp only [swA0, swA1, swA2, swA3, TurnsAll, Turns]
  refine ⟨?_, ?_, ?_, trivial⟩
  all_goals
    repeat (first | refine ⟨turn_eqv _, ?_⟩ | refine ⟨turn_false _, ?_⟩ | refine ⟨turn_true _, ?_⟩)
    trivial
def ssA0 (g1 g2 b5 : Nat) (a : Ac) (f : Bool) : Lvs :=
  [eqv (.pointer (some ⟨g1, 0, none⟩)),
   eqv (.pointer (some ⟨b5, 36, none⟩)),
   eqv (.slice a.tA a.ts.length a.tc),
   fun _ _ => False,
   fun _ _ => False,
   eqv (.pointer (some ⟨g2, 0, none⟩)),
   eqv (.pointer (some ⟨b5, 36, none⟩)),
   eqv (.slice a.tA a.ts.length a.tc),
   fun _ _ => False,
   fun _ _ => False,
   fun _ _ => False,
   fun _ _ => False]
def ssA1 (g1 g2 b5 : Nat) (a : Ac) (f : Bool) : Lvs :=
  [eqv (.pointer (some ⟨g1, 0, none⟩)),
   eqv (.pointer (some ⟨b5, 36, none⟩)),
   eqv (.slice a.tA a.ts.length a.tc),
   eqv (.int .i64 (errV f)),
   fun _ _ => False,
   eqv (.pointer (some ⟨g2, 0, none⟩)),
   eqv (.pointer (some ⟨b5, 36, none⟩)),
   eqv (.slice a.tA a.ts.length a.tc),
   fun _ _ => False,
   fun _ _ => False,
   fun _ _ => False,
   fun _ _ => False]
def ssA2 (g1 g2 b5 : Nat) (a : Ac) (f : Bool) : Lvs :=
  [eqv (.pointer (some ⟨g1, 0, none⟩)),
   eqv (.pointer (some ⟨b5, 36, none⟩)),
   eqv (.slice a.tA a.ts.length a.tc),
   eqv (.int .i64 (errV f)),
   eqv (.int .i64 (errV f)),
   eqv (.pointer (some ⟨g2, 0, none⟩)),
   eqv (.pointer (some ⟨b5, 36, none⟩)),
   eqv (.slice a.tA a.ts.length a.tc),
   fun _ _ => False,
   fun _ _ => False,
   fun _ _ => False,
   fun _ _ => False]
def ssA3 (g1 g2 b5 : Nat) (a : Ac) (f : Bool) : Lvs :=
  [eqv (.pointer (some ⟨g1, 0, none⟩)),
   eqv (.pointer (some ⟨b5, 36, none⟩)),
   eqv (.slice a.tA a.ts.length a.tc),
   eqv (.int .i64 (errV f)),
   eqv (.int .i64 (errV f)),
   eqv (.pointer (some ⟨g2, 0, none⟩)),
   eqv (.pointer (some ⟨b5, 36, none⟩)),
   eqv (.slice a.tA a.ts.length a.tc),
   eqv (.int .i64 (errV f)),
   eqv (.int .i64 (errV f)),
   eqv (.bool true),
   eqv (.bool true)]
theorem ssA_keep (g1 g2 b5 : Nat) (a : Ac) (f : Bool) : ∀ L ∈ [ssA0 g1 g2 b5 a f, ssA1 g1 g2 b5 a f, ssA2 g1 g2 b5 a f, ssA3 g1 g2 b5 a f], ∀ q ∈ L, Keeps (fun _ _ => True) q := by
  simp only [ssA0, ssA1, ssA2, ssA3, List.forall_mem_cons]
  refine ⟨?_, ?_, ?_, ?_, by simp⟩
  all_goals
    repeat (first | refine ⟨keep_eqv _ _, ?_⟩ | refine ⟨keep_pure _ _, ?_⟩)
    simp
theorem ssA_turns (g1 g2 b5 : Nat) (a : Ac) (f : Bool) : TurnsAll [ssA0 g1 g2 b5 a f, ssA1 g1 g2 b5 a f, ssA2 g1 g2 b5 a f, ssA3 g1 g2 b5 a f] := by
  simp only [ssA0, ssA1, ssA2, ssA3, TurnsAll, Turns]
  refine ⟨?_, ?_, ?_, trivial⟩
  all_goals
    repeat (first | refine ⟨turn_eqv _, ?_⟩ | refine ⟨turn_false _, ?_⟩ | refine ⟨turn_true _, ?_⟩)
    trivial
/-- what the law looks at -/
structure Sm where
  safe : List Sec
  wait : List Wr
  log : List (Int × Wr × List Tg)
  ep : Nat
def Rk.sm (R : Rk) : Sm := ⟨R.safe, R.wait, R.log.map sigE, R.ep⟩
def StepTo (w0 : World) (g1 g2 k : Nat) (m : Sm) (o : Ending) (w' : World) : Prop := o = .returned (.bool true) ∧ ∃ F1 F2 D R, PairV w0 w' g1 g2 F1 F2 D R ∧ Alike k D R ∧ R.sm = m
def Rk.syncS (R : Rk) (ts : List Tg) : Sm := if R.fails then R.sm else (R.synced ts none 0).sm
theorem sm_sync {R R' : Rk} {ts : List Tg} (h : RSync R ts R') : R'.sm = R.syncS ts := by
  unfold Rk.syncS
  rcases h with ⟨f, rfl⟩ | ⟨f, A, c, rfl⟩
  · rw [f, if_pos rfl]; rfl
  · rw [f, if_neg (by decide)]
    unfold Rk.sm Rk.synced
    simp only [List.map_append]
    rfl
section
variable {w0 w : World} {g1 g2 : Nat} {F1 F2 : Nat → Prop} {D : Dk} {R : Rk} {k : Nat}
theorem st_start (h : PairV w0 w g1 g2 F1 F2 D R) (a : Ac) : St w0 g1 g2 w.heap.size a D R (w.alloc (.cells (cellsA a).toArray 72)) :=
  ⟨F1, F2, h.grow ((Below.refl _ w).alloc (Nat.le_refl _) _), Blk.new w 72 _, fun hf => Nat.lt_irrefl _ (h.disk.lt _ hf), fun hf => Nat.lt_irrefl _ (h.refd.lt _ hf)⟩
theorem St.pair {b5 : Nat} {a : Ac} {W : World} (h : St w0 g1 g2 b5 a D R W) (hal : Alike k D R) : StepTo w0 g1 g2 k R.sm (.returned (.bool true)) W := by
  obtain ⟨F1, F2, hp, _⟩ := h
  exact ⟨rfl, F1, F2, D, R, hp, hal, rfl⟩
set_option maxRecDepth 100000 in
set_option maxHeartbeats 4000000 in
theorem step_write (h : PairV w0 w g1 g2 F1 F2 D R) (hal : Alike k D R) (hk : k ≤ 100) (a : Ac) (hok : OkB w0 w0.heap.size a) (hkd : a.kind = 0 ∨ a.kind = 1) :
    Calls Try.prog 55 #[.pointer (some ⟨g1, 0, none⟩), .pointer (some ⟨g2, 0, none⟩), .agg (cellsA a).toArray] w (StepTo w0 g1 g2 (k + 1) (R.write a.at_ a.s a.t).1.sm) := by
  have hS := st_start h a
  have HS0 := Lib.hid hS
  obtain ⟨b5, hb5⟩ : ∃ b5, b5 = w.heap.size := ⟨_, rfl⟩
  have HB5 := Lib.hid hb5
  obtain ⟨hv, hal2⟩ := hal.write a.at_ a.s a.t hok.1.2.2.2.1
  have hlog : R.log.length = D.log.length := by have := congrArg List.length hal.log; simpa using this.symm
  have hwd : ∀ W, St w0 g1 g2 b5 a D R W → Calls Try.prog 45 #[.pointer (some ⟨g1, 0, none⟩), .int .i64 a.at_, .agg (cellsS a.s).toArray, .agg (cellsT a.t).toArray] W fun o W' => o = .returned (.int .i64 (D.write a.at_ a.s a.t).2) ∧ St w0 g1 g2 b5 a (D.write a.at_ a.s a.t).1 R W' :=
    fun W hs => hs.dwrite hal.pos (by have := hal.nl; omega) (by have := hal.wl; omega) (by have := hal.ll; omega) a.at_ a.s a.t
  have hwr : ∀ D1 W, St w0 g1 g2 b5 a D1 R W → Calls Try.prog 94 #[.pointer (some ⟨g2, 0, none⟩), .int .i64 a.at_, .agg (cellsS a.s).toArray, .agg (cellsT a.t).toArray] W fun o W' => o = .returned (.int .i64 (R.write a.at_ a.s a.t).2) ∧ St w0 g1 g2 b5 a D1 (R.write a.at_ a.s a.t).1 W' :=
    fun D1 W hs => hs.rwrite (by rw [← hal.nx]; have := hal.nl; omega) (by have := hal.bl; omega) (by rw [← hal.wait]; have := hal.wl; omega) (by rw [hlog]; have := hal.ll; omega) a.at_ a.s a.t
  rw [← hv] at hwr
  obtain ⟨D1, hD1⟩ : ∃ D1, D1 = (D.write a.at_ a.s a.t).1 := ⟨_, rfl⟩
  obtain ⟨R1, hR1⟩ : ∃ R1, R1 = (R.write a.at_ a.s a.t).1 := ⟨_, rfl⟩
  obtain ⟨v, hvv⟩ : ∃ v, v = (D.write a.at_ a.s a.t).2 := ⟨_, rfl⟩
  rw [← hD1, ← hvv] at hwd
  rw [← hvv, ← hR1] at hwr
  rw [← hD1, ← hR1] at hal2
  rw [← hR1]
  have HWD := Lib.hid hwd
  have HWR := Lib.hid (hwr D1)
  have HAL := Lib.hid hal2
  have c0 := hS.kind
  obtain ⟨w1, hw1⟩ : ∃ w1, w.alloc (.cells (cellsA a).toArray 72) = w1 := ⟨_, rfl⟩
  rw [hw1] at c0 HS0
  have HS : Hid (St w0 g1 g2 b5 a D R w1) := Lib.hid (by rw [hb5]; exact HS0.out)
  clear h hal hS HS0 hok hv hlog hwd hwr hal2 hD1 hR1 hvv hk hb5
  have fin : (∀ kd : Int, (kd = 0 ∨ kd = 1) → w1.cell? ⟨w.heap.size, 0, none⟩ = some (.int .i64 kd) → Calls Try.prog 55 #[.pointer (some ⟨g1, 0, none⟩), .pointer (some ⟨g2, 0, none⟩), .agg (cellsA a).toArray] w (StepTo w0 g1 g2 (k + 1) R1.sm)) → Calls Try.prog 55 #[.pointer (some ⟨g1, 0, none⟩), .pointer (some ⟨g2, 0, none⟩), .agg (cellsA a).toArray] w (StepTo w0 g1 g2 (k + 1) R1.sm) := fun H => H _ hkd c0
  refine fin ?_
  clear fin hkd c0
  rintro kd (rfl | rfl) c0
  all_goals
  go_enter Try.func55, Try.ntmps55
  go_wp2_with fail
  rw [← HB5.out]
  clear c0 hw1
  refine Ph.wp_region_all (ph [swA0 g1 g2 b5 a v, swA1 g1 g2 b5 a v, swA2 g1 g2 b5 a v, swA3 g1 g2 b5 a v]) (fun k _ W => match k with | 0 => St w0 g1 g2 b5 a D R W | 1 => St w0 g1 g2 b5 a D1 R W | 2 => St w0 g1 g2 b5 a D1 R W | 3 => St w0 g1 g2 b5 a D1 R1 W | _ => False) (fun _ _ => True) (fun _ _ _ => True) [7, 8, 16] [some 16, some 17, some 18, some 19, some 20, some 21, some 22, some 23, some 24, some 25, some 26, some 27, some 28, some 29, some 30, some 31, some 32, some 33, some 34, some 6] mixedP (by kernel_rfl) (by kernel_rfl) (by kernel_rfl) (by kernel_rfl) (ph_keep (swA_keep g1 g2 b5 a v)) (fun k j u W W' _ hs => ph_turn (swA_turns g1 g2 b5 a v) k j u W W' hs) HS.out.drew_ ?steps ?fin
  case steps =>
    refine all_lt 20 ?_
    simp only [AllLt]
    refine ⟨?_, ?_, ?_, ?_, ?_, ?_, ?_, ?_, ?_, ?_, ?_, ?_, ?_, ?_, ?_, ?_, ?_, ?_, ?_, ?_, trivial⟩
    · refine step_upto (by kernel_rfl) 0 [] (by kernel_rfl) fun k hk a W hJ hf => ?_
      rcases k with _ | k
      · have h0 : a.tmps[0]? = some (.pointer (some ⟨g1, 0, none⟩)) := hf.old 0 (by kernel_rfl)
        apply op_value
        case ho => rfl
        case hw => exact (wanted_none rfl)
        case hrun => exact run_move (.inl rfl) (eval_tmp h0)
        case hS => exact rfl
        case hk => exact trivial
        case hJ => exact hJ
      · omega
    · refine step_upto (by kernel_rfl) 0 [2] (by kernel_rfl) fun k hk a W hJ hf => ?_
      rcases k with _ | k
      · have h5 : a.tmps[5]? = some (.pointer (some ⟨b5, 0, none⟩)) := hf.old 5 (by kernel_rfl)
        apply op_value
        case ho => rfl
        case hw => exact (wanted_none rfl)
        case hrun => exact run_fieldAddr rfl (eval_tmp h5) (V := (.pointer (some ⟨b5, 1, none⟩))) (by go_simp)
        case hS => exact rfl
        case hk => exact trivial
        case hJ => exact hJ
      · omega
    · refine step_upto (by kernel_rfl) 0 [] (by kernel_rfl) fun k hk a W hJ hf => ?_
      rcases k with _ | k
      · obtain ⟨v17, h17, rfl⟩ := hf.get 1 17 (by kernel_rfl) (by kernel_rfl)
        apply op_value
        case ho => rfl
        case hw => exact (wanted_none rfl)
        case hrun => exact run_load rfl (eval_tmp h17) (ld3 (St.at_ hJ))
        case hS => exact rfl
        case hk => exact trivial
        case hJ => exact hJ
      · omega
    · refine step_upto (by kernel_rfl) 0 [4] (by kernel_rfl) fun k hk a W hJ hf => ?_
      rcases k with _ | k
      · have h5 : a.tmps[5]? = some (.pointer (some ⟨b5, 0, none⟩)) := hf.old 5 (by kernel_rfl)
        apply op_value
        case ho => rfl
        case hw => exact (wanted_none rfl)
        case hrun => exact run_fieldAddr rfl (eval_tmp h5) (V := (.pointer (some ⟨b5, 2, none⟩))) (by go_simp)
        case hS => exact rfl
        case hk => exact trivial
        case hJ => exact hJ
      · omega
    · refine step_upto (by kernel_rfl) 0 [] (by kernel_rfl) fun k hk a W hJ hf => ?_
      rcases k with _ | k
      · obtain ⟨v19, h19, rfl⟩ := hf.get 3 19 (by kernel_rfl) (by kernel_rfl)
        apply op_value
        case ho => rfl
        case hw => exact (wanted_none rfl)
        case hrun => exact run_load rfl (eval_tmp h19) (ldSm (St.sec hJ))
        case hS => exact rfl
        case hk => exact trivial
        case hJ => exact hJ
      · omega
    · refine step_upto (by kernel_rfl) 0 [6] (by kernel_rfl) fun k hk a W hJ hf => ?_
      rcases k with _ | k
      · have h5 : a.tmps[5]? = some (.pointer (some ⟨b5, 0, none⟩)) := hf.old 5 (by kernel_rfl)
        apply op_value
        case ho => rfl
        case hw => exact (wanted_none rfl)
        case hrun => exact run_fieldAddr rfl (eval_tmp h5) (V := (.pointer (some ⟨b5, 34, none⟩))) (by go_simp)
        case hS => exact rfl
        case hk => exact trivial
        case hJ => exact hJ
      · omega
    · refine step_upto (by kernel_rfl) 0 [] (by kernel_rfl) fun k hk a W hJ hf => ?_
      rcases k with _ | k
      · obtain ⟨v21, h21, rfl⟩ := hf.get 5 21 (by kernel_rfl) (by kernel_rfl)
        apply op_value
        case ho => rfl
        case hw => exact (wanted_none rfl)
        case hrun => exact run_load rfl (eval_tmp h21) (ldTm (St.tag hJ))
        case hS => exact rfl
        case hk => exact trivial
        case hJ => exact hJ
      · omega
    · refine step_eff 0 (by kernel_rfl) (by kernel_rfl) (by kernel_rfl) fun a W hJ hf => ?_
      obtain ⟨v16, h16, rfl⟩ := hf.get 0 16 (by kernel_rfl) (by kernel_rfl)
      obtain ⟨v18, h18, rfl⟩ := hf.get 2 18 (by kernel_rfl) (by kernel_rfl)
      obtain ⟨v20, h20, rfl⟩ := hf.get 4 20 (by kernel_rfl) (by kernel_rfl)
      obtain ⟨v22, h22, rfl⟩ := hf.get 6 22 (by kernel_rfl) (by kernel_rfl)
      refine op_call rfl (wanted_none rfl) (run_call rfl (args_four (eval_tmp h16) (eval_tmp h18) (eval_tmp h20) (eval_tmp h22)) (cf45 _ _)) ?_
      refine (HWD.out W hJ).mono ?_
      rintro e W' ⟨rfl, hs⟩
      exact ⟨_, rfl, rfl, trivial, hs⟩
    · refine step_eff 1 (by kernel_rfl) (by kernel_rfl) (by kernel_rfl) fun a W hJ hf => ?_
      obtain ⟨v23, h23, rfl⟩ := hf.get 7 23 (by kernel_rfl) (by kernel_rfl)
      refine op_call rfl (wanted_none rfl) (run_call rfl (args_one (eval_tmp h23)) (cf43 _ _)) ?_
      refine (num_any _ _).mono ?_
      rintro e W' ⟨rfl, rfl⟩
      exact ⟨_, rfl, rfl, trivial, hJ⟩
    · refine step_upto (by kernel_rfl) 2 [] (by kernel_rfl) fun k hk a W hJ hf => ?_
      rcases k with _ | k
      · have h1 : a.tmps[1]? = some (.pointer (some ⟨g2, 0, none⟩)) := hf.old 1 (by kernel_rfl)
        apply op_value
        case ho => rfl
        case hw => exact (wanted_none rfl)
        case hrun => exact run_move (.inl rfl) (eval_tmp h1)
        case hS => exact rfl
        case hk => exact trivial
        case hJ => exact hJ
      rcases k with _ | k
      · have h1 : a.tmps[1]? = some (.pointer (some ⟨g2, 0, none⟩)) := hf.old 1 (by kernel_rfl)
        apply op_value
        case ho => rfl
        case hw => exact (wanted_none rfl)
        case hrun => exact run_move (.inl rfl) (eval_tmp h1)
        case hS => exact rfl
        case hk => exact trivial
        case hJ => exact hJ
      rcases k with _ | k
      · have h1 : a.tmps[1]? = some (.pointer (some ⟨g2, 0, none⟩)) := hf.old 1 (by kernel_rfl)
        apply op_value
        case ho => rfl
        case hw => exact (wanted_none rfl)
        case hrun => exact run_move (.inl rfl) (eval_tmp h1)
        case hS => exact rfl
        case hk => exact trivial
        case hJ => exact hJ
      · omega
    · refine step_upto (by kernel_rfl) 2 [11] (by kernel_rfl) fun k hk a W hJ hf => ?_
      rcases k with _ | k
      · have h5 : a.tmps[5]? = some (.pointer (some ⟨b5, 0, none⟩)) := hf.old 5 (by kernel_rfl)
        apply op_value
        case ho => rfl
        case hw => exact (wanted_none rfl)
        case hrun => exact run_fieldAddr rfl (eval_tmp h5) (V := (.pointer (some ⟨b5, 1, none⟩))) (by go_simp)
        case hS => exact rfl
        case hk => exact trivial
        case hJ => exact hJ
      rcases k with _ | k
      · have h5 : a.tmps[5]? = some (.pointer (some ⟨b5, 0, none⟩)) := hf.old 5 (by kernel_rfl)
        apply op_value
        case ho => rfl
        case hw => exact (wanted_none rfl)
        case hrun => exact run_fieldAddr rfl (eval_tmp h5) (V := (.pointer (some ⟨b5, 1, none⟩))) (by go_simp)
        case hS => exact rfl
        case hk => exact trivial
        case hJ => exact hJ
      rcases k with _ | k
      · have h5 : a.tmps[5]? = some (.pointer (some ⟨b5, 0, none⟩)) := hf.old 5 (by kernel_rfl)
        apply op_value
        case ho => rfl
        case hw => exact (wanted_none rfl)
        case hrun => exact run_fieldAddr rfl (eval_tmp h5) (V := (.pointer (some ⟨b5, 1, none⟩))) (by go_simp)
        case hS => exact rfl
        case hk => exact trivial
        case hJ => exact hJ
      · omega
    · refine step_upto (by kernel_rfl) 2 [] (by kernel_rfl) fun k hk a W hJ hf => ?_
      rcases k with _ | k
      · obtain ⟨v26, h26, rfl⟩ := hf.get 10 26 (by kernel_rfl) (by kernel_rfl)
        apply op_value
        case ho => rfl
        case hw => exact (wanted_none rfl)
        case hrun => exact run_load rfl (eval_tmp h26) (ld3 (St.at_ hJ))
        case hS => exact rfl
        case hk => exact trivial
        case hJ => exact hJ
      rcases k with _ | k
      · obtain ⟨v26, h26, rfl⟩ := hf.get 10 26 (by kernel_rfl) (by kernel_rfl)
        apply op_value
        case ho => rfl
        case hw => exact (wanted_none rfl)
        case hrun => exact run_load rfl (eval_tmp h26) (ld3 (St.at_ hJ))
        case hS => exact rfl
        case hk => exact trivial
        case hJ => exact hJ
      rcases k with _ | k
      · obtain ⟨v26, h26, rfl⟩ := hf.get 10 26 (by kernel_rfl) (by kernel_rfl)
        apply op_value
        case ho => rfl
        case hw => exact (wanted_none rfl)
        case hrun => exact run_load rfl (eval_tmp h26) (ld3 (St.at_ hJ))
        case hS => exact rfl
        case hk => exact trivial
        case hJ => exact hJ
      · omega
    · refine step_upto (by kernel_rfl) 2 [13] (by kernel_rfl) fun k hk a W hJ hf => ?_
      rcases k with _ | k
      · have h5 : a.tmps[5]? = some (.pointer (some ⟨b5, 0, none⟩)) := hf.old 5 (by kernel_rfl)
        apply op_value
        case ho => rfl
        case hw => exact (wanted_none rfl)
        case hrun => exact run_fieldAddr rfl (eval_tmp h5) (V := (.pointer (some ⟨b5, 2, none⟩))) (by go_simp)
        case hS => exact rfl
        case hk => exact trivial
        case hJ => exact hJ
      rcases k with _ | k
      · have h5 : a.tmps[5]? = some (.pointer (some ⟨b5, 0, none⟩)) := hf.old 5 (by kernel_rfl)
        apply op_value
        case ho => rfl
        case hw => exact (wanted_none rfl)
        case hrun => exact run_fieldAddr rfl (eval_tmp h5) (V := (.pointer (some ⟨b5, 2, none⟩))) (by go_simp)
        case hS => exact rfl
        case hk => exact trivial
        case hJ => exact hJ
      rcases k with _ | k
      · have h5 : a.tmps[5]? = some (.pointer (some ⟨b5, 0, none⟩)) := hf.old 5 (by kernel_rfl)
        apply op_value
        case ho => rfl
        case hw => exact (wanted_none rfl)
        case hrun => exact run_fieldAddr rfl (eval_tmp h5) (V := (.pointer (some ⟨b5, 2, none⟩))) (by go_simp)
        case hS => exact rfl
        case hk => exact trivial
        case hJ => exact hJ
      · omega
    · refine step_upto (by kernel_rfl) 2 [] (by kernel_rfl) fun k hk a W hJ hf => ?_
      rcases k with _ | k
      · obtain ⟨v28, h28, rfl⟩ := hf.get 12 28 (by kernel_rfl) (by kernel_rfl)
        apply op_value
        case ho => rfl
        case hw => exact (wanted_none rfl)
        case hrun => exact run_load rfl (eval_tmp h28) (ldSm (St.sec hJ))
        case hS => exact rfl
        case hk => exact trivial
        case hJ => exact hJ
      rcases k with _ | k
      · obtain ⟨v28, h28, rfl⟩ := hf.get 12 28 (by kernel_rfl) (by kernel_rfl)
        apply op_value
        case ho => rfl
        case hw => exact (wanted_none rfl)
        case hrun => exact run_load rfl (eval_tmp h28) (ldSm (St.sec hJ))
        case hS => exact rfl
        case hk => exact trivial
        case hJ => exact hJ
      rcases k with _ | k
      · obtain ⟨v28, h28, rfl⟩ := hf.get 12 28 (by kernel_rfl) (by kernel_rfl)
        apply op_value
        case ho => rfl
        case hw => exact (wanted_none rfl)
        case hrun => exact run_load rfl (eval_tmp h28) (ldSm (St.sec hJ))
        case hS => exact rfl
        case hk => exact trivial
        case hJ => exact hJ
      · omega
    · refine step_upto (by kernel_rfl) 2 [15] (by kernel_rfl) fun k hk a W hJ hf => ?_
      rcases k with _ | k
      · have h5 : a.tmps[5]? = some (.pointer (some ⟨b5, 0, none⟩)) := hf.old 5 (by kernel_rfl)
        apply op_value
        case ho => rfl
        case hw => exact (wanted_none rfl)
        case hrun => exact run_fieldAddr rfl (eval_tmp h5) (V := (.pointer (some ⟨b5, 34, none⟩))) (by go_simp)
        case hS => exact rfl
        case hk => exact trivial
        case hJ => exact hJ
      rcases k with _ | k
      · have h5 : a.tmps[5]? = some (.pointer (some ⟨b5, 0, none⟩)) := hf.old 5 (by kernel_rfl)
        apply op_value
        case ho => rfl
        case hw => exact (wanted_none rfl)
        case hrun => exact run_fieldAddr rfl (eval_tmp h5) (V := (.pointer (some ⟨b5, 34, none⟩))) (by go_simp)
        case hS => exact rfl
        case hk => exact trivial
        case hJ => exact hJ
      rcases k with _ | k
      · have h5 : a.tmps[5]? = some (.pointer (some ⟨b5, 0, none⟩)) := hf.old 5 (by kernel_rfl)
        apply op_value
        case ho => rfl
        case hw => exact (wanted_none rfl)
        case hrun => exact run_fieldAddr rfl (eval_tmp h5) (V := (.pointer (some ⟨b5, 34, none⟩))) (by go_simp)
        case hS => exact rfl
        case hk => exact trivial
        case hJ => exact hJ
      · omega
    · refine step_upto (by kernel_rfl) 2 [] (by kernel_rfl) fun k hk a W hJ hf => ?_
      rcases k with _ | k
      · obtain ⟨v30, h30, rfl⟩ := hf.get 14 30 (by kernel_rfl) (by kernel_rfl)
        apply op_value
        case ho => rfl
        case hw => exact (wanted_none rfl)
        case hrun => exact run_load rfl (eval_tmp h30) (ldTm (St.tag hJ))
        case hS => exact rfl
        case hk => exact trivial
        case hJ => exact hJ
      rcases k with _ | k
      · obtain ⟨v30, h30, rfl⟩ := hf.get 14 30 (by kernel_rfl) (by kernel_rfl)
        apply op_value
        case ho => rfl
        case hw => exact (wanted_none rfl)
        case hrun => exact run_load rfl (eval_tmp h30) (ldTm (St.tag hJ))
        case hS => exact rfl
        case hk => exact trivial
        case hJ => exact hJ
      rcases k with _ | k
      · obtain ⟨v30, h30, rfl⟩ := hf.get 14 30 (by kernel_rfl) (by kernel_rfl)
        apply op_value
        case ho => rfl
        case hw => exact (wanted_none rfl)
        case hrun => exact run_load rfl (eval_tmp h30) (ldTm (St.tag hJ))
        case hS => exact rfl
        case hk => exact trivial
        case hJ => exact hJ
      · omega
    · refine step_eff 2 (by kernel_rfl) (by kernel_rfl) (by kernel_rfl) fun a W hJ hf => ?_
      obtain ⟨v25, h25, rfl⟩ := hf.get 9 25 (by kernel_rfl) (by kernel_rfl)
      obtain ⟨v27, h27, rfl⟩ := hf.get 11 27 (by kernel_rfl) (by kernel_rfl)
      obtain ⟨v29, h29, rfl⟩ := hf.get 13 29 (by kernel_rfl) (by kernel_rfl)
      obtain ⟨v31, h31, rfl⟩ := hf.get 15 31 (by kernel_rfl) (by kernel_rfl)
      refine op_call rfl (wanted_none rfl) (run_call rfl (args_four (eval_tmp h25) (eval_tmp h27) (eval_tmp h29) (eval_tmp h31)) (cf94 _ _)) ?_
      refine (HWR.out W hJ).mono ?_
      rintro e W' ⟨rfl, hs⟩
      exact ⟨_, rfl, rfl, trivial, hs⟩
    · refine step_pure (by kernel_rfl) fun k a W hJ hf => ?_
      rcases k with _ | k
      · obtain ⟨_, _, hno⟩ := hf.dep 16 (by kernel_rfl)
        exact hno.elim
      rcases k with _ | k
      · obtain ⟨_, _, hno⟩ := hf.dep 16 (by kernel_rfl)
        exact hno.elim
      rcases k with _ | k
      · obtain ⟨_, _, hno⟩ := hf.dep 16 (by kernel_rfl)
        exact hno.elim
      rcases k with _ | k
      · obtain ⟨v32, h32, rfl⟩ := hf.get 16 32 (by kernel_rfl) (by kernel_rfl)
        refine op_call rfl (wanted_none rfl) (run_call rfl (args_one (eval_tmp h32)) (cf43 _ _)) ?_
        refine (num_any _ _).mono ?_
        rintro e W' ⟨rfl, rfl⟩
        exact ⟨_, rfl, rfl, trivial, hJ⟩
      · exact hJ.elim
    · refine step_pure (by kernel_rfl) fun k a W hJ hf => ?_
      rcases k with _ | k
      · obtain ⟨_, _, hno⟩ := hf.dep 8 (by kernel_rfl)
        exact hno.elim
      rcases k with _ | k
      · obtain ⟨_, _, hno⟩ := hf.dep 8 (by kernel_rfl)
        exact hno.elim
      rcases k with _ | k
      · obtain ⟨_, _, hno⟩ := hf.dep 17 (by kernel_rfl)
        exact hno.elim
      rcases k with _ | k
      · obtain ⟨v24, h24, rfl⟩ := hf.get 8 24 (by kernel_rfl) (by kernel_rfl)
        obtain ⟨v33, h33, rfl⟩ := hf.get 17 33 (by kernel_rfl) (by kernel_rfl)
        apply op_value
        case ho => rfl
        case hw => exact (wanted_none rfl)
        case hrun => exact run_bin rfl (eval_tmp h24) (eval_tmp h33) rfl (eqlSame v W)
        case hS => exact rfl
        case hk => exact trivial
        case hJ => exact hJ
      · exact hJ.elim
    · refine step_pure (by kernel_rfl) fun k a W hJ hf => ?_
      rcases k with _ | k
      · obtain ⟨_, _, hno⟩ := hf.dep 18 (by kernel_rfl)
        exact hno.elim
      rcases k with _ | k
      · obtain ⟨_, _, hno⟩ := hf.dep 18 (by kernel_rfl)
        exact hno.elim
      rcases k with _ | k
      · obtain ⟨_, _, hno⟩ := hf.dep 18 (by kernel_rfl)
        exact hno.elim
      rcases k with _ | k
      · obtain ⟨v34, h34, rfl⟩ := hf.get 18 34 (by kernel_rfl) (by kernel_rfl)
        apply op_value
        case ho => rfl
        case hw => exact (wanted_none rfl)
        case hrun => exact run_move (.inr rfl) (eval_tmp h34)
        case hS => exact rfl
        case hk => exact trivial
        case hJ => exact hJ
      · exact hJ.elim
  case fin =>
    intro vs w3 hl hJ hSS
    have hl0 : vs.length = 20 := hl
    have h19 := fun v hv => hSS 19 v hv
    obtain ⟨y0, r0, rfl, hl1⟩ := cons_of hl0
    obtain ⟨y1, r1, rfl, hl2⟩ := cons_of hl1
    obtain ⟨y2, r2, rfl, hl3⟩ := cons_of hl2
    obtain ⟨y3, r3, rfl, hl4⟩ := cons_of hl3
    obtain ⟨y4, r4, rfl, hl5⟩ := cons_of hl4
    obtain ⟨y5, r5, rfl, hl6⟩ := cons_of hl5
    obtain ⟨y6, r6, rfl, hl7⟩ := cons_of hl6
    obtain ⟨y7, r7, rfl, hl8⟩ := cons_of hl7
    obtain ⟨y8, r8, rfl, hl9⟩ := cons_of hl8
    obtain ⟨y9, r9, rfl, hl10⟩ := cons_of hl9
    obtain ⟨y10, r10, rfl, hl11⟩ := cons_of hl10
    obtain ⟨y11, r11, rfl, hl12⟩ := cons_of hl11
    obtain ⟨y12, r12, rfl, hl13⟩ := cons_of hl12
    obtain ⟨y13, r13, rfl, hl14⟩ := cons_of hl13
    obtain ⟨y14, r14, rfl, hl15⟩ := cons_of hl14
    obtain ⟨y15, r15, rfl, hl16⟩ := cons_of hl15
    obtain ⟨y16, r16, rfl, hl17⟩ := cons_of hl16
    obtain ⟨y17, r17, rfl, hl18⟩ := cons_of hl17
    obtain ⟨y18, r18, rfl, hl19⟩ := cons_of hl18
    obtain ⟨y19, r19, rfl, hl20⟩ := cons_of hl19
    obtain rfl := nil_of hl20
    have e19 : y19 = .bool true := h19 _ rfl
    subst e19
    simp only [putAll, Act.put, List.setIfInBounds_toArray, List.set_cons_zero, List.set_cons_succ]
    have HJ : Hid (St w0 g1 g2 b5 a D1 R1 w3) := Lib.hid hJ
    clear hSS hl hl0 h19 hJ
    go_wp2_with fail
    go_ret
    exact HJ.out.pair HAL.out
set_option maxRecDepth 100000 in
set_option maxHeartbeats 4000000 in
theorem step_sync (h : PairV w0 w g1 g2 F1 F2 D R) (hal : Alike k D R) (hk : k ≤ 100) (a : Ac) (hok : OkB w0 w0.heap.size a) (hts : a.ts.length ≤ 50) (hkd : a.kind = 2) :
    Calls Try.prog 55 #[.pointer (some ⟨g1, 0, none⟩), .pointer (some ⟨g2, 0, none⟩), .agg (cellsA a).toArray] w (StepTo w0 g1 g2 (k + 1) (R.syncS a.ts)) := by
  have hS := st_start h a
  obtain ⟨b5, hb5⟩ : ∃ b5, b5 = w.heap.size := ⟨_, rfl⟩
  have HB5 := Lib.hid hb5
  have hsd : ∀ W, St w0 g1 g2 b5 a D R W → Calls Try.prog 48 #[.pointer (some ⟨g1, 0, none⟩), .slice a.tA a.ts.length a.tc] W fun o W' => o = .returned (.int .i64 (errV D.fails)) ∧ ∃ D', DSync D a.ts D' ∧ St w0 g1 g2 b5 a D' R W' :=
    fun W hs => hs.dsync hal hk a.tA a.tc a.ts hts hok.1.2.2.1 hok.1.1
  have hsr : ∀ D1 W, St w0 g1 g2 b5 a D1 R W → Calls Try.prog 95 #[.pointer (some ⟨g2, 0, none⟩), .slice a.tA a.ts.length a.tc] W fun o W' => o = .returned (.int .i64 (errV R.fails)) ∧ ∃ R', RSync R a.ts R' ∧ St w0 g1 g2 b5 a D1 R' W' :=
    fun D1 W hs => hs.rsync hal hk a.tA a.tc a.ts hts hok.1.1
  rw [← hal.fails] at hsr
  obtain ⟨f, hf⟩ : ∃ f, f = D.fails := ⟨_, rfl⟩
  rw [← hf] at hsd hsr
  have HSD := Lib.hid hsd
  have HSR := Lib.hid hsr
  have HAL : Hid (∀ D1 R1, DSync D a.ts D1 → RSync R a.ts R1 → Alike (k + 1) D1 R1) := Lib.hid (fun D1 R1 h1 h2 => hal.sync hts h1 h2)
  have c0 := hS.kind
  rw [hkd] at c0
  have HS0 := Lib.hid hS
  obtain ⟨w1, hw1⟩ : ∃ w1, w.alloc (.cells (cellsA a).toArray 72) = w1 := ⟨_, rfl⟩
  rw [hw1] at c0 HS0
  have HS : Hid (St w0 g1 g2 b5 a D R w1) := Lib.hid (by rw [hb5]; exact HS0.out)
  clear h hal hS HS0 hok hsd hsr hf hk hb5 hts hkd
  go_enter Try.func55, Try.ntmps55
  go_wp2_with fail
  rw [← HB5.out]
  clear c0 hw1
  refine Ph.wp_region_all (ph [ssA0 g1 g2 b5 a f, ssA1 g1 g2 b5 a f, ssA2 g1 g2 b5 a f, ssA3 g1 g2 b5 a f]) (fun k _ W => match k with | 0 => SyncJ w0 g1 g2 b5 a (fun D1 R1 => D1 = D ∧ R1 = R) W | 1 => SyncJ w0 g1 g2 b5 a (fun D1 R1 => DSync D a.ts D1 ∧ R1 = R) W | 2 => SyncJ w0 g1 g2 b5 a (fun D1 R1 => DSync D a.ts D1 ∧ R1 = R) W | 3 => SyncJ w0 g1 g2 b5 a (fun D1 R1 => DSync D a.ts D1 ∧ RSync R a.ts R1) W | _ => False) (fun _ _ => True) (fun _ _ _ => True) [3, 4, 8] [some 37, some 38, some 39, some 40, some 41, some 42, some 43, some 44, some 45, some 46, some 47, some 6] mixedP (by kernel_rfl) (by kernel_rfl) (by kernel_rfl) (by kernel_rfl) (ph_keep (ssA_keep g1 g2 b5 a f)) (fun k j u W W' _ hs => ph_turn (ssA_turns g1 g2 b5 a f) k j u W W' hs) ⟨D, R, ⟨rfl, rfl⟩, HS.out.drew_⟩ ?steps ?fin
  case steps =>
    refine all_lt 12 ?_
    simp only [AllLt]
    refine ⟨?_, ?_, ?_, ?_, ?_, ?_, ?_, ?_, ?_, ?_, ?_, ?_, trivial⟩
    · refine step_upto (by kernel_rfl) 0 [] (by kernel_rfl) fun k hk a W hJ hf => ?_
      rcases k with _ | k
      · have h0 : a.tmps[0]? = some (.pointer (some ⟨g1, 0, none⟩)) := hf.old 0 (by kernel_rfl)
        apply op_value
        case ho => rfl
        case hw => exact (wanted_none rfl)
        case hrun => exact run_move (.inl rfl) (eval_tmp h0)
        case hS => exact rfl
        case hk => exact trivial
        case hJ => exact hJ
      · omega
    · refine step_upto (by kernel_rfl) 0 [2] (by kernel_rfl) fun k hk a W hJ hf => ?_
      rcases k with _ | k
      · have h5 : a.tmps[5]? = some (.pointer (some ⟨b5, 0, none⟩)) := hf.old 5 (by kernel_rfl)
        apply op_value
        case ho => rfl
        case hw => exact (wanted_none rfl)
        case hrun => exact run_fieldAddr rfl (eval_tmp h5) (V := (.pointer (some ⟨b5, 36, none⟩))) (by go_simp)
        case hS => exact rfl
        case hk => exact trivial
        case hJ => exact hJ
      · omega
    · refine step_upto (by kernel_rfl) 0 [] (by kernel_rfl) fun k hk a W hJ hf => ?_
      rcases k with _ | k
      · obtain ⟨v38, h38, rfl⟩ := hf.get 1 38 (by kernel_rfl) (by kernel_rfl)
        apply op_value
        case ho => rfl
        case hw => exact (wanted_none rfl)
        case hrun => exact run_load rfl (eval_tmp h38) (ld70 (sync_tags hJ))
        case hS => exact rfl
        case hk => exact trivial
        case hJ => exact hJ
      · omega
    · refine step_eff 0 (by kernel_rfl) (by kernel_rfl) (by kernel_rfl) fun a W hJ hf => ?_
      obtain ⟨v37, h37, rfl⟩ := hf.get 0 37 (by kernel_rfl) (by kernel_rfl)
      obtain ⟨v39, h39, rfl⟩ := hf.get 2 39 (by kernel_rfl) (by kernel_rfl)
      refine op_call rfl (wanted_none rfl) (run_call rfl (args_two (eval_tmp h37) (eval_tmp h39)) (cf48 _ _)) ?_
      obtain ⟨D1, R1, ⟨rfl, rfl⟩, hs⟩ := hJ
      refine (HSD.out W hs).mono ?_
      rintro e W' ⟨rfl, D2, hd, hs2⟩
      exact ⟨_, rfl, rfl, trivial, ⟨D2, R1, ⟨hd, rfl⟩, hs2⟩⟩
    · refine step_eff 1 (by kernel_rfl) (by kernel_rfl) (by kernel_rfl) fun a W hJ hf => ?_
      obtain ⟨v40, h40, rfl⟩ := hf.get 3 40 (by kernel_rfl) (by kernel_rfl)
      refine op_call rfl (wanted_none rfl) (run_call rfl (args_one (eval_tmp h40)) (cf43 _ _)) ?_
      refine (num_any _ _).mono ?_
      rintro e W' ⟨rfl, rfl⟩
      exact ⟨_, rfl, rfl, trivial, hJ⟩
    · refine step_upto (by kernel_rfl) 2 [] (by kernel_rfl) fun k hk a W hJ hf => ?_
      rcases k with _ | k
      · have h1 : a.tmps[1]? = some (.pointer (some ⟨g2, 0, none⟩)) := hf.old 1 (by kernel_rfl)
        apply op_value
        case ho => rfl
        case hw => exact (wanted_none rfl)
        case hrun => exact run_move (.inl rfl) (eval_tmp h1)
        case hS => exact rfl
        case hk => exact trivial
        case hJ => exact hJ
      rcases k with _ | k
      · have h1 : a.tmps[1]? = some (.pointer (some ⟨g2, 0, none⟩)) := hf.old 1 (by kernel_rfl)
        apply op_value
        case ho => rfl
        case hw => exact (wanted_none rfl)
        case hrun => exact run_move (.inl rfl) (eval_tmp h1)
        case hS => exact rfl
        case hk => exact trivial
        case hJ => exact hJ
      rcases k with _ | k
      · have h1 : a.tmps[1]? = some (.pointer (some ⟨g2, 0, none⟩)) := hf.old 1 (by kernel_rfl)
        apply op_value
        case ho => rfl
        case hw => exact (wanted_none rfl)
        case hrun => exact run_move (.inl rfl) (eval_tmp h1)
        case hS => exact rfl
        case hk => exact trivial
        case hJ => exact hJ
      · omega
    · refine step_upto (by kernel_rfl) 2 [7] (by kernel_rfl) fun k hk a W hJ hf => ?_
      rcases k with _ | k
      · have h5 : a.tmps[5]? = some (.pointer (some ⟨b5, 0, none⟩)) := hf.old 5 (by kernel_rfl)
        apply op_value
        case ho => rfl
        case hw => exact (wanted_none rfl)
        case hrun => exact run_fieldAddr rfl (eval_tmp h5) (V := (.pointer (some ⟨b5, 36, none⟩))) (by go_simp)
        case hS => exact rfl
        case hk => exact trivial
        case hJ => exact hJ
      rcases k with _ | k
      · have h5 : a.tmps[5]? = some (.pointer (some ⟨b5, 0, none⟩)) := hf.old 5 (by kernel_rfl)
        apply op_value
        case ho => rfl
        case hw => exact (wanted_none rfl)
        case hrun => exact run_fieldAddr rfl (eval_tmp h5) (V := (.pointer (some ⟨b5, 36, none⟩))) (by go_simp)
        case hS => exact rfl
        case hk => exact trivial
        case hJ => exact hJ
      rcases k with _ | k
      · have h5 : a.tmps[5]? = some (.pointer (some ⟨b5, 0, none⟩)) := hf.old 5 (by kernel_rfl)
        apply op_value
        case ho => rfl
        case hw => exact (wanted_none rfl)
        case hrun => exact run_fieldAddr rfl (eval_tmp h5) (V := (.pointer (some ⟨b5, 36, none⟩))) (by go_simp)
        case hS => exact rfl
        case hk => exact trivial
        case hJ => exact hJ
      · omega
    · refine step_upto (by kernel_rfl) 2 [] (by kernel_rfl) fun k hk a W hJ hf => ?_
      rcases k with _ | k
      · obtain ⟨v43, h43, rfl⟩ := hf.get 6 43 (by kernel_rfl) (by kernel_rfl)
        apply op_value
        case ho => rfl
        case hw => exact (wanted_none rfl)
        case hrun => exact run_load rfl (eval_tmp h43) (ld70 (sync_tags hJ))
        case hS => exact rfl
        case hk => exact trivial
        case hJ => exact hJ
      rcases k with _ | k
      · obtain ⟨v43, h43, rfl⟩ := hf.get 6 43 (by kernel_rfl) (by kernel_rfl)
        apply op_value
        case ho => rfl
        case hw => exact (wanted_none rfl)
        case hrun => exact run_load rfl (eval_tmp h43) (ld70 (sync_tags hJ))
        case hS => exact rfl
        case hk => exact trivial
        case hJ => exact hJ
      rcases k with _ | k
      · obtain ⟨v43, h43, rfl⟩ := hf.get 6 43 (by kernel_rfl) (by kernel_rfl)
        apply op_value
        case ho => rfl
        case hw => exact (wanted_none rfl)
        case hrun => exact run_load rfl (eval_tmp h43) (ld70 (sync_tags hJ))
        case hS => exact rfl
        case hk => exact trivial
        case hJ => exact hJ
      · omega
    · refine step_eff 2 (by kernel_rfl) (by kernel_rfl) (by kernel_rfl) fun a W hJ hf => ?_
      obtain ⟨v42, h42, rfl⟩ := hf.get 5 42 (by kernel_rfl) (by kernel_rfl)
      obtain ⟨v44, h44, rfl⟩ := hf.get 7 44 (by kernel_rfl) (by kernel_rfl)
      refine op_call rfl (wanted_none rfl) (run_call rfl (args_two (eval_tmp h42) (eval_tmp h44)) (cf95 _ _)) ?_
      obtain ⟨D1, R1, ⟨hd, rfl⟩, hs⟩ := hJ
      refine (HSR.out D1 W hs).mono ?_
      rintro e W' ⟨rfl, R2, hr, hs2⟩
      exact ⟨_, rfl, rfl, trivial, ⟨D1, R2, ⟨hd, hr⟩, hs2⟩⟩
    · refine step_pure (by kernel_rfl) fun k a W hJ hf => ?_
      rcases k with _ | k
      · obtain ⟨_, _, hno⟩ := hf.dep 8 (by kernel_rfl)
        exact hno.elim
      rcases k with _ | k
      · obtain ⟨_, _, hno⟩ := hf.dep 8 (by kernel_rfl)
        exact hno.elim
      rcases k with _ | k
      · obtain ⟨_, _, hno⟩ := hf.dep 8 (by kernel_rfl)
        exact hno.elim
      rcases k with _ | k
      · obtain ⟨v45, h45, rfl⟩ := hf.get 8 45 (by kernel_rfl) (by kernel_rfl)
        refine op_call rfl (wanted_none rfl) (run_call rfl (args_one (eval_tmp h45)) (cf43 _ _)) ?_
        refine (num_any _ _).mono ?_
        rintro e W' ⟨rfl, rfl⟩
        exact ⟨_, rfl, rfl, trivial, hJ⟩
      · exact hJ.elim
    · refine step_pure (by kernel_rfl) fun k a W hJ hf => ?_
      rcases k with _ | k
      · obtain ⟨_, _, hno⟩ := hf.dep 4 (by kernel_rfl)
        exact hno.elim
      rcases k with _ | k
      · obtain ⟨_, _, hno⟩ := hf.dep 4 (by kernel_rfl)
        exact hno.elim
      rcases k with _ | k
      · obtain ⟨_, _, hno⟩ := hf.dep 9 (by kernel_rfl)
        exact hno.elim
      rcases k with _ | k
      · obtain ⟨v41, h41, rfl⟩ := hf.get 4 41 (by kernel_rfl) (by kernel_rfl)
        obtain ⟨v46, h46, rfl⟩ := hf.get 9 46 (by kernel_rfl) (by kernel_rfl)
        apply op_value
        case ho => rfl
        case hw => exact (wanted_none rfl)
        case hrun => exact run_bin rfl (eval_tmp h41) (eval_tmp h46) rfl (eqlSame (errV f) W)
        case hS => exact rfl
        case hk => exact trivial
        case hJ => exact hJ
      · exact hJ.elim
    · refine step_pure (by kernel_rfl) fun k a W hJ hf => ?_
      rcases k with _ | k
      · obtain ⟨_, _, hno⟩ := hf.dep 10 (by kernel_rfl)
        exact hno.elim
      rcases k with _ | k
      · obtain ⟨_, _, hno⟩ := hf.dep 10 (by kernel_rfl)
        exact hno.elim
      rcases k with _ | k
      · obtain ⟨_, _, hno⟩ := hf.dep 10 (by kernel_rfl)
        exact hno.elim
      rcases k with _ | k
      · obtain ⟨v47, h47, rfl⟩ := hf.get 10 47 (by kernel_rfl) (by kernel_rfl)
        apply op_value
        case ho => rfl
        case hw => exact (wanted_none rfl)
        case hrun => exact run_move (.inr rfl) (eval_tmp h47)
        case hS => exact rfl
        case hk => exact trivial
        case hJ => exact hJ
      · exact hJ.elim
  case fin =>
    intro vs w3 hl hJ hSS
    have hl0 : vs.length = 12 := hl
    have h11 := fun v hv => hSS 11 v hv
    obtain ⟨y0, r0, rfl, hl1⟩ := cons_of hl0
    obtain ⟨y1, r1, rfl, hl2⟩ := cons_of hl1
    obtain ⟨y2, r2, rfl, hl3⟩ := cons_of hl2
    obtain ⟨y3, r3, rfl, hl4⟩ := cons_of hl3
    obtain ⟨y4, r4, rfl, hl5⟩ := cons_of hl4
    obtain ⟨y5, r5, rfl, hl6⟩ := cons_of hl5
    obtain ⟨y6, r6, rfl, hl7⟩ := cons_of hl6
    obtain ⟨y7, r7, rfl, hl8⟩ := cons_of hl7
    obtain ⟨y8, r8, rfl, hl9⟩ := cons_of hl8
    obtain ⟨y9, r9, rfl, hl10⟩ := cons_of hl9
    obtain ⟨y10, r10, rfl, hl11⟩ := cons_of hl10
    obtain ⟨y11, r11, rfl, hl12⟩ := cons_of hl11
    obtain rfl := nil_of hl12
    have e11 : y11 = .bool true := h11 _ rfl
    subst e11
    simp only [putAll, Act.put, List.setIfInBounds_toArray, List.set_cons_zero, List.set_cons_succ]
    obtain ⟨D1, R1, ⟨hd, hr⟩, hs⟩ := hJ
    have HJ := Lib.hid hs
    have HA := Lib.hid (HAL.out D1 R1 hd hr)
    have HSM := Lib.hid (sm_sync hr)
    clear hSS hl hl0 h11 hs hd hr
    go_wp2_with fail
    go_ret
    rw [← HSM.out]
    exact HJ.out.pair HA.out
set_option maxRecDepth 100000 in
set_option maxHeartbeats 4000000 in
theorem step_barrier (h : PairV w0 w g1 g2 F1 F2 D R) (hal : Alike k D R) (hk : k ≤ 100) (a : Ac) (hkd : a.kind = 3) :
    Calls Try.prog 55 #[.pointer (some ⟨g1, 0, none⟩), .pointer (some ⟨g2, 0, none⟩), .agg (cellsA a).toArray] w (StepTo w0 g1 g2 (k + 1) R.barrier.1.sm) := by
  have hS := st_start h a
  obtain ⟨hv, hal2⟩ := hal.barrier
  have hlog : R.log.length = D.log.length := by have := congrArg List.length hal.log; simpa using this.symm
  have HWD : Hid (∀ W, St w0 g1 g2 w.heap.size a D R W → Calls Try.prog 46 #[.pointer (some ⟨g1, 0, none⟩)] W fun o W' => o = .returned (.int .i64 D.barrier.2) ∧ St w0 g1 g2 w.heap.size a D.barrier.1 R W') :=
    Lib.hid (fun W hs => hs.dbarrier hal.pos (by have := hal.nl; omega) (by have := hal.el; omega) (by have := hal.ll; omega))
  have HWR : Hid (∀ D1 W, St w0 g1 g2 w.heap.size a D1 R W → Calls Try.prog 96 #[.pointer (some ⟨g2, 0, none⟩)] W fun o W' => o = .returned (.int .i64 D.barrier.2) ∧ St w0 g1 g2 w.heap.size a D1 R.barrier.1 W') :=
    Lib.hid (fun D1 W hs => by rw [hv]; exact hs.rbarrier (by rw [← hal.nx]; have := hal.nl; omega) (by have := hal.bl; omega) (by rw [← hal.ep]; have := hal.el; omega) (by rw [hlog]; have := hal.ll; omega))
  obtain ⟨v, hvv⟩ : ∃ v, v = D.barrier.2 := ⟨_, rfl⟩
  rw [← hvv] at HWD HWR
  have HAL := Lib.hid hal2
  have HE : Hid (∀ W, (binOp .eql 3 (.int .i64 v) (.int .i64 v)).run Try.prog W = .ok (.bool true) W) := Lib.hid (eqlSame v)
  have c0 := hS.kind
  rw [hkd] at c0
  have HS := Lib.hid hS
  obtain ⟨w1, hw1⟩ : ∃ w1, w.alloc (.cells (cellsA a).toArray 72) = w1 := ⟨_, rfl⟩
  rw [hw1] at c0 HS
  clear h hal hS hv hlog hal2 hvv hk hkd
  go_enter Try.func55, Try.ntmps55
  go_wp2_with (first
    | (go_at_call 46; refine (HWD.out _ HS.out).mono ?_; rintro o w2 ⟨rfl, hs2⟩; have HS2 := Lib.hid hs2; clear hs2)
    | (go_at_call 96; refine (HWR.out _ _ HS2.out).mono ?_; rintro o w3 ⟨rfl, hs3⟩; have HS3 := Lib.hid hs3; clear hs3)
    | (go_at_call 43; refine (num_any _ _).mono ?_; rintro o w' ⟨rfl, e⟩; obtain rfl := e.symm; clear e)
    | (with_reducible show wpList _ _ _ (Oper.mk (some 56) _ _ _ _ _ :: _) _ _; go_must (refine wpList_wrun rfl _ (Ph.run_bin (X := .int .i64 v) (Y := .int .i64 v) rfl rfl rfl rfl (HE.out _)) ?_)))
  go_ret
  exact HS3.out.pair HAL.out
end
end Go.Proofs.Ytikhhipgamllgaa
namespace Go.Proofs.Ytikhhipgamllgaa
open Go.RowKit Ph
set_option linter.unusedVariables false
section
variable {w0 w : World} {g1 g2 : Nat} {F1 F2 : Nat → Prop} {D : Dk} {R : Rk} {k : Nat}
/-- a state that still holds a sector in a block of its own -/
def StX (w0 : World) (g1 g2 b5 : Nat) (a : Ac) (D : Dk) (R : Rk) (b7 : Nat) (x : Sec) (W : World) : Prop := ∃ F1 F2, PairV w0 W g1 g2 F1 F2 D R ∧ Blk W b5 72 (cellsA a).toArray ∧ ¬ F1 b5 ∧ ¬ F2 b5 ∧ Blk W b7 66 (cellsS x).toArray
theorem St.withX {b5 b7 : Nat} {a : Ac} {x : Sec} {W : World} (h : St w0 g1 g2 b5 a D R W) (hk : Blk W b7 66 (cellsS x).toArray) : StX w0 g1 g2 b5 a D R b7 x W := by
  obtain ⟨F1, F2, hp, h1, h2, h3⟩ := h
  exact ⟨F1, F2, hp, h1, h2, h3, hk⟩
theorem StX.st {b5 b7 : Nat} {a : Ac} {x : Sec} {W : World} (h : StX w0 g1 g2 b5 a D R b7 x W) : St w0 g1 g2 b5 a D R W := by
  obtain ⟨F1, F2, hp, h1, h2, h3, _⟩ := h
  exact ⟨F1, F2, hp, h1, h2, h3⟩
theorem StX.blk {b5 b7 : Nat} {a : Ac} {x : Sec} {W : World} (h : StX w0 g1 g2 b5 a D R b7 x W) : Blk W b7 66 (cellsS x).toArray := by
  obtain ⟨F1, F2, hp, h1, h2, h3, h4⟩ := h
  exact h4
theorem StX.rread {b5 b7 : Nat} {a : Ac} {x : Sec} {W : World} (h : StX w0 g1 g2 b5 a D R b7 x W) (hw : R.wait.length ≤ 1000) (at_ : Int) :
    Calls Try.prog 98 #[.pointer (some ⟨g2, 0, none⟩), .int .i64 at_] W fun o W' => o = .returned (.tuple #[.agg (cellsS (R.read at_).1).toArray, .int .i64 (R.read at_).2]) ∧ StX w0 g1 g2 b5 a D R b7 x W' := by
  obtain ⟨F1, F2, hpv, hk, n1, n2, hx⟩ := h
  obtain ⟨_, _, _, _, hd⟩ := hpv.refd
  refine (rread_any hd at_ hw).mono ?_
  rintro o W' ⟨rfl, hb⟩
  exact ⟨rfl, F1, F2, hpv.grow hb, hk.below hb hk.lt, n1, n2, hx.below hb hx.lt⟩
set_option maxRecDepth 100000 in
set_option maxHeartbeats 4000000 in
theorem step_read (h : PairV w0 w g1 g2 F1 F2 D R) (hal2 : Alike k D R) (hk : k ≤ 100) (a : Ac) (hkd : a.kind ≠ 0 ∧ a.kind ≠ 1 ∧ a.kind ≠ 2 ∧ a.kind ≠ 3 ∧ a.kind ≠ 5) :
    Calls Try.prog 55 #[.pointer (some ⟨g1, 0, none⟩), .pointer (some ⟨g2, 0, none⟩), .agg (cellsA a).toArray] w (StepTo w0 g1 g2 (k + 1) R.sm) := by
  have hS := st_start h a
  obtain ⟨b5, hb5'⟩ : ∃ b5, b5 = w.heap.size := ⟨_, rfl⟩
  have HB0 := Lib.hid hb5'
  obtain ⟨at_, hat⟩ : ∃ x, x = a.at_ := ⟨_, rfl⟩
  have HRD : Hid (∀ W, St w0 g1 g2 b5 a D R W → Calls Try.prog 50 #[.pointer (some ⟨g1, 0, none⟩), .int .i64 at_] W fun o W' => o = .returned (.tuple #[.agg (cellsS (D.read at_).1).toArray, .int .i64 (D.read at_).2]) ∧ St w0 g1 g2 b5 a D R W') :=
    Lib.hid (fun W hs => hs.dread hal2.pos (by have := hal2.wl; omega) at_)
  have HRR : Hid (∀ b7 x W, StX w0 g1 g2 b5 a D R b7 x W → Calls Try.prog 98 #[.pointer (some ⟨g2, 0, none⟩), .int .i64 at_] W fun o W' => o = .returned (.tuple #[.agg (cellsS (D.read at_).1).toArray, .int .i64 (D.read at_).2]) ∧ StX w0 g1 g2 b5 a D R b7 x W') :=
    Lib.hid (fun b7 x W hs => by rw [hal2.read]; exact hs.rread (by rw [← hal2.wait]; have := hal2.wl; omega) at_)
  obtain ⟨x, hx⟩ : ∃ x, x = (D.read at_).1 := ⟨_, rfl⟩
  obtain ⟨v, hv⟩ : ∃ v, v = (D.read at_).2 := ⟨_, rfl⟩
  rw [← hx, ← hv] at HRD HRR
  obtain ⟨s0, hs0⟩ : ∃ s0, s0 = zeroSec := ⟨_, rfl⟩
  have HZ : Hid (∀ W, (zeroValue 66).run Try.prog W = .ok (.agg (cellsS s0).toArray) W) := Lib.hid (by rw [hs0]; exact zS)
  have HEQ : Hid (∀ W, (binOp .eql 66 (.agg (cellsS x).toArray) (.agg (cellsS x).toArray)).run Try.prog W = .ok (.bool true) W) := Lib.hid (fun W => eqlS W x)
  have HE : Hid (∀ W, (binOp .eql 3 (.int .i64 v) (.int .i64 v)).run Try.prog W = .ok (.bool true) W) := Lib.hid (eqlSame v)
  have HAT : Hid (∀ W, St w0 g1 g2 b5 a D R W → W.cell? ⟨b5, 1, none⟩ = some (.int .i64 at_)) := Lib.hid (fun W hs => by rw [hat]; exact hs.at_)
  have c0 := hS.kind
  have HS0 := Lib.hid hS
  obtain ⟨w1, hw1⟩ : ∃ w1, w.alloc (.cells (cellsA a).toArray 72) = w1 := ⟨_, rfl⟩
  rw [hw1] at c0 HS0
  have HS : Hid (St w0 g1 g2 b5 a D R w1) := Lib.hid (by rw [hb5']; exact HS0.out)
  obtain ⟨kd, hkk⟩ : ∃ x, x = a.kind := ⟨_, rfl⟩
  rw [← hkk] at c0 hkd
  have e0 : (kd == 0) = false := by have := hkd; simp; omega
  have e0' : decide (kd = 0) = false := by have := hkd; simp; omega
  have e1 : (kd == 1) = false := by have := hkd; simp; omega
  have e1' : decide (kd = 1) = false := by have := hkd; simp; omega
  have e2 : (kd == 2) = false := by have := hkd; simp; omega
  have e2' : decide (kd = 2) = false := by have := hkd; simp; omega
  have e3 : (kd == 3) = false := by have := hkd; simp; omega
  have e3' : decide (kd = 3) = false := by have := hkd; simp; omega
  have e5 : (kd == 5) = false := by have := hkd; simp; omega
  have e5' : decide (kd = 5) = false := by have := hkd; simp; omega
  have c1 := HAT.out _ HS.out
  rw [hb5'] at c1
  have HAL := Lib.hid hal2.more
  clear h hal2 hS HS0 hx hv hs0 hk hkd hkk hat hb5'
  go_enter Try.func55, Try.ntmps55
  go_wp2_with fail
  rw [← HB0.out]
  clear c0 c1 hw1
  go_wp2_with (first
    | (go_at_call 50; refine (HRD.out _ HS.out).mono ?_; rintro o w2 ⟨rfl, hs2⟩; obtain ⟨w3, hw3, hk3, hb3, hst3⟩ := box_world w2 x s0; obtain ⟨b7, hb7⟩ : ∃ b, b = w2.heap.size := ⟨_, rfl⟩; rw [← hb7] at hk3 hst3; have HW3 := Lib.hid hw3; have HST3 := Lib.hid hst3; have HB3 := Lib.hid hb7; have HS3 := Lib.hid ((hs2.grow hb3).withX hk3); have HC3 := Lib.hid (HAT.out _ HS3.out.st); clear hs2 hw3 hk3 hb3 hst3 hb7)
    | (with_reducible show wpList _ _ _ (Oper.mk (some 7) (Op.alloc 66) _ _ _ _ :: _) _ _; go_must (refine wpList_wrun (w' := w2.alloc (.cells (cellsS s0).toArray 66)) rfl (.pointer (some ⟨w2.heap.size, 0, none⟩)) (Ph.run_alloc (z := .agg (cellsS s0).toArray) rfl (HZ.out w2)) ?_; rw [← HB3.out]))
    | (with_reducible show wpList _ _ _ (Oper.mk none (Op.store 66 (.tmp 7) _) _ _ _ _ :: _) _ _; go_must (refine wpList_done rfl w3 (Ph.run_store (X := .pointer (some ⟨b7, 0, none⟩)) (Y := .agg (cellsS x).toArray) rfl rfl rfl HST3.out) ?_))
    | (with_reducible show wpList _ _ _ (Oper.mk (some 77) (Op.load 3 _) _ _ _ _ :: _) _ _; go_must (refine wpList_wrun rfl _ (Ph.run_load (X := .pointer (some ⟨b5, 1, none⟩)) rfl rfl (ld3 HC3.out)) ?_))
    | (go_at_call 98; refine (HRR.out b7 x _ HS3.out).mono ?_; rintro o w4 ⟨rfl, hs4⟩; obtain ⟨w5, hw5, hk5, hb5, hst5⟩ := box_world w4 x s0; obtain ⟨b9, hb9⟩ : ∃ b, b = w4.heap.size := ⟨_, rfl⟩; rw [← hb9] at hk5 hst5; have HW5 := Lib.hid hw5; have HST5 := Lib.hid hst5; have HB5 := Lib.hid hb9; have HS5 := Lib.hid (hs4.st.grow hb5); have HX7 := Lib.hid (range0 (hs4.blk.below hb5 hs4.blk.lt)); have HX9 := Lib.hid (range0 hk5); clear hs4 hw5 hk5 hb5 hst5 hb9)
    | (with_reducible show wpList _ _ _ (Oper.mk (some 9) (Op.alloc 66) _ _ _ _ :: _) _ _; go_must (refine wpList_wrun (w' := w4.alloc (.cells (cellsS s0).toArray 66)) rfl (.pointer (some ⟨w4.heap.size, 0, none⟩)) (Ph.run_alloc (z := .agg (cellsS s0).toArray) rfl (HZ.out w4)) ?_; rw [← HB5.out]))
    | (with_reducible show wpList _ _ _ (Oper.mk none (Op.store 66 (.tmp 9) _) _ _ _ _ :: _) _ _; go_must (refine wpList_done rfl w5 (Ph.run_store (X := .pointer (some ⟨b9, 0, none⟩)) (Y := .agg (cellsS x).toArray) rfl rfl rfl HST5.out) ?_))
    | (with_reducible show wpList _ _ _ (Oper.mk (some 81) _ _ _ _ _ :: _) _ _; go_must (refine wpList_load_mid rfl 66 (.tmp 7) rfl b7 0 rfl (cellsS x) _ HX7.out Try.underlying66 rfl (by rw [cellsS_len]; exact info66) ?_))
    | (with_reducible show wpList _ _ _ (Oper.mk (some 82) _ _ _ _ _ :: _) _ _; go_must (refine wpList_load_mid rfl 66 (.tmp 9) rfl b9 0 rfl (cellsS x) _ HX9.out Try.underlying66 rfl (by rw [cellsS_len]; exact info66) ?_))
    | (with_reducible show wpList _ _ _ (Oper.mk (some 83) _ _ _ _ _ :: _) _ _; go_must (refine wpList_wrun rfl _ (Ph.run_bin (X := .agg (cellsS x).toArray) (Y := .agg (cellsS x).toArray) rfl rfl rfl (guard_sec _ _ _ _ _ _) (HEQ.out _)) ?_))
    | (with_reducible show wpList _ _ _ (Oper.mk (some 89) _ _ _ _ _ :: _) _ _; go_must (refine wpList_wrun rfl _ (Ph.run_bin (X := .int .i64 v) (Y := .int .i64 v) rfl rfl rfl rfl (HE.out _)) ?_))
    | (go_at_call 43; refine (num_any _ _).mono ?_; rintro o w' ⟨rfl, e⟩; obtain rfl := e.symm; clear e))
  go_ret
  exact HS5.out.pair HAL.out
set_option maxRecDepth 100000 in
set_option maxHeartbeats 4000000 in
theorem step_fail (h : PairV w0 w g1 g2 F1 F2 D R) (hal : Alike k D R) (hk : k ≤ 100) (a : Ac) (hok : OkB w0 w0.heap.size a) (hbs : a.bad.length ≤ 50) (hkd : a.kind = 5) :
    Calls Try.prog 55 #[.pointer (some ⟨g1, 0, none⟩), .pointer (some ⟨g2, 0, none⟩), .agg (cellsA a).toArray] w (StepTo w0 g1 g2 (k + 1) (R.fail a.bad).sm) := by
  have hS := st_start h a
  obtain ⟨b5, hb5'⟩ : ∃ b5, b5 = w.heap.size := ⟨_, rfl⟩
  have HB0 := Lib.hid hb5'
  obtain ⟨at_, hat⟩ : ∃ x, x = a.at_ := ⟨_, rfl⟩
  have HFD : Hid (∀ W, St w0 g1 g2 b5 a D R W → Calls Try.prog 54 #[.pointer (some ⟨g1, 0, none⟩), .slice a.bA a.bad.length a.bc] W fun o W' => o = .returned (.tuple #[]) ∧ St w0 g1 g2 b5 a (D.fail a.bad) R W') :=
    Lib.hid (fun W hs => hs.dfail hal.pos a.bA a.bc a.bad hbs hok.2 hok.1.2.1)
  have HFR : Hid (∀ D1 W, St w0 g1 g2 b5 a D1 R W → Calls Try.prog 97 #[.pointer (some ⟨g2, 0, none⟩), .slice a.bA a.bad.length a.bc] W fun o W' => o = .returned (.tuple #[]) ∧ St w0 g1 g2 b5 a D1 (R.fail a.bad) W') :=
    Lib.hid (fun D1 W hs => hs.rfail a.bA a.bc a.bad hbs hok.1.2.1)
  have hal2 := hal.fail a.bad hbs
  obtain ⟨D1, hD1⟩ : ∃ D1, D1 = D.fail a.bad := ⟨_, rfl⟩
  obtain ⟨R1, hR1⟩ : ∃ R1, R1 = R.fail a.bad := ⟨_, rfl⟩
  rw [← hD1] at HFD hal2
  rw [← hR1] at HFR hal2
  rw [← hR1]
  have HRD : Hid (∀ W, St w0 g1 g2 b5 a D1 R1 W → Calls Try.prog 50 #[.pointer (some ⟨g1, 0, none⟩), .int .i64 at_] W fun o W' => o = .returned (.tuple #[.agg (cellsS (D1.read at_).1).toArray, .int .i64 (D1.read at_).2]) ∧ St w0 g1 g2 b5 a D1 R1 W') :=
    Lib.hid (fun W hs => hs.dread hal2.pos (by have := hal2.wl; omega) at_)
  have HRR : Hid (∀ b7 x W, StX w0 g1 g2 b5 a D1 R1 b7 x W → Calls Try.prog 98 #[.pointer (some ⟨g2, 0, none⟩), .int .i64 at_] W fun o W' => o = .returned (.tuple #[.agg (cellsS (D1.read at_).1).toArray, .int .i64 (D1.read at_).2]) ∧ StX w0 g1 g2 b5 a D1 R1 b7 x W') :=
    Lib.hid (fun b7 x W hs => by rw [hal2.read]; exact hs.rread (by rw [← hal2.wait]; have := hal2.wl; omega) at_)
  obtain ⟨x, hx⟩ : ∃ x, x = (D1.read at_).1 := ⟨_, rfl⟩
  obtain ⟨v, hv⟩ : ∃ v, v = (D1.read at_).2 := ⟨_, rfl⟩
  rw [← hx, ← hv] at HRD HRR
  obtain ⟨s0, hs0⟩ : ∃ s0, s0 = zeroSec := ⟨_, rfl⟩
  have HZ : Hid (∀ W, (zeroValue 66).run Try.prog W = .ok (.agg (cellsS s0).toArray) W) := Lib.hid (by rw [hs0]; exact zS)
  have HEQ : Hid (∀ W, (binOp .eql 66 (.agg (cellsS x).toArray) (.agg (cellsS x).toArray)).run Try.prog W = .ok (.bool true) W) := Lib.hid (fun W => eqlS W x)
  have HE : Hid (∀ W, (binOp .eql 3 (.int .i64 v) (.int .i64 v)).run Try.prog W = .ok (.bool true) W) := Lib.hid (eqlSame v)
  have HAT : Hid (∀ W, St w0 g1 g2 b5 a D1 R1 W → W.cell? ⟨b5, 1, none⟩ = some (.int .i64 at_)) := Lib.hid (fun W hs => by rw [hat]; exact hs.at_)
  have HBD : Hid (∀ D R W, St w0 g1 g2 b5 a D R W → W.cell? ⟨b5, 37, none⟩ = some (.slice a.bA a.bad.length a.bc)) := Lib.hid (fun D R W hs => hs.bads)
  have c0 := hS.kind
  have HS0 := Lib.hid hS
  obtain ⟨w1, hw1⟩ : ∃ w1, w.alloc (.cells (cellsA a).toArray 72) = w1 := ⟨_, rfl⟩
  rw [hw1] at c0 HS0
  have HS : Hid (St w0 g1 g2 b5 a D R w1) := Lib.hid (by rw [hb5']; exact HS0.out)
  rw [hkd] at c0
  have HAL := Lib.hid hal2.more
  have c37 := HBD.out _ _ _ HS.out
  obtain ⟨bv, hbv⟩ : ∃ v, v = Value.slice a.bA a.bad.length a.bc := ⟨_, rfl⟩
  rw [← hbv] at HFD HFR HBD c37
  rw [hb5'] at c37
  clear h hal hal2 hS HS0 hx hv hs0 hk hkd hat hb5' hok hbs hD1 hR1 hbv
  go_enter Try.func55, Try.ntmps55
  go_wp2_with fail
  rw [← HB0.out]
  clear c0 c37 hw1
  go_wp2_with (first
    | (with_reducible show wpList _ _ _ (Oper.mk (some 65) (Op.load 33 _) _ _ _ _ :: _) _ _; go_must (refine wpList_wrun rfl _ (Ph.run_load (X := .pointer (some ⟨b5, 37, none⟩)) rfl rfl (ld33 HC01.out)) ?_))
    | (with_reducible show wpList _ _ _ (Oper.mk (some 70) (Op.load 3 _) _ _ _ _ :: _) _ _; go_must (refine wpList_wrun rfl _ (Ph.run_load (X := .pointer (some ⟨b5, 1, none⟩)) rfl rfl (ld3 HC1.out)) ?_))
    | (go_at_call 54; refine (HFD.out _ HS.out).mono ?_; rintro o w6 ⟨rfl, hs6⟩; have HS6 := Lib.hid hs6; have HC01 := Lib.hid (HBD.out _ _ _ hs6); clear hs6)
    | (go_at_call 97; refine (HFR.out _ _ HS6.out).mono ?_; rintro o w7 ⟨rfl, hs7⟩; have HS7 := Lib.hid hs7; have HC1 := Lib.hid (HAT.out _ hs7); clear hs7)
    | (go_at_call 50; refine (HRD.out _ HS7.out).mono ?_; rintro o w2 ⟨rfl, hs2⟩; obtain ⟨w3, hw3, hk3, hb3, hst3⟩ := box_world w2 x s0; obtain ⟨b7, hb7⟩ : ∃ b, b = w2.heap.size := ⟨_, rfl⟩; rw [← hb7] at hk3 hst3; have HW3 := Lib.hid hw3; have HST3 := Lib.hid hst3; have HB3 := Lib.hid hb7; have HS3 := Lib.hid ((hs2.grow hb3).withX hk3); have HC3 := Lib.hid (HAT.out _ HS3.out.st); clear hs2 hw3 hk3 hb3 hst3 hb7)
    | (with_reducible show wpList _ _ _ (Oper.mk (some 7) (Op.alloc 66) _ _ _ _ :: _) _ _; go_must (refine wpList_wrun (w' := w2.alloc (.cells (cellsS s0).toArray 66)) rfl (.pointer (some ⟨w2.heap.size, 0, none⟩)) (Ph.run_alloc (z := .agg (cellsS s0).toArray) rfl (HZ.out w2)) ?_; rw [← HB3.out]))
    | (with_reducible show wpList _ _ _ (Oper.mk none (Op.store 66 (.tmp 7) _) _ _ _ _ :: _) _ _; go_must (refine wpList_done rfl w3 (Ph.run_store (X := .pointer (some ⟨b7, 0, none⟩)) (Y := .agg (cellsS x).toArray) rfl rfl rfl HST3.out) ?_))
    | (with_reducible show wpList _ _ _ (Oper.mk (some 77) (Op.load 3 _) _ _ _ _ :: _) _ _; go_must (refine wpList_wrun rfl _ (Ph.run_load (X := .pointer (some ⟨b5, 1, none⟩)) rfl rfl (ld3 HC3.out)) ?_))
    | (go_at_call 98; refine (HRR.out b7 x _ HS3.out).mono ?_; rintro o w4 ⟨rfl, hs4⟩; obtain ⟨w5, hw5, hk5, hb5, hst5⟩ := box_world w4 x s0; obtain ⟨b9, hb9⟩ : ∃ b, b = w4.heap.size := ⟨_, rfl⟩; rw [← hb9] at hk5 hst5; have HW5 := Lib.hid hw5; have HST5 := Lib.hid hst5; have HB5 := Lib.hid hb9; have HS5 := Lib.hid (hs4.st.grow hb5); have HX7 := Lib.hid (range0 (hs4.blk.below hb5 hs4.blk.lt)); have HX9 := Lib.hid (range0 hk5); clear hs4 hw5 hk5 hb5 hst5 hb9)
    | (with_reducible show wpList _ _ _ (Oper.mk (some 9) (Op.alloc 66) _ _ _ _ :: _) _ _; go_must (refine wpList_wrun (w' := w4.alloc (.cells (cellsS s0).toArray 66)) rfl (.pointer (some ⟨w4.heap.size, 0, none⟩)) (Ph.run_alloc (z := .agg (cellsS s0).toArray) rfl (HZ.out w4)) ?_; rw [← HB5.out]))
    | (with_reducible show wpList _ _ _ (Oper.mk none (Op.store 66 (.tmp 9) _) _ _ _ _ :: _) _ _; go_must (refine wpList_done rfl w5 (Ph.run_store (X := .pointer (some ⟨b9, 0, none⟩)) (Y := .agg (cellsS x).toArray) rfl rfl rfl HST5.out) ?_))
    | (with_reducible show wpList _ _ _ (Oper.mk (some 81) _ _ _ _ _ :: _) _ _; go_must (refine wpList_load_mid rfl 66 (.tmp 7) rfl b7 0 rfl (cellsS x) _ HX7.out Try.underlying66 rfl (by rw [cellsS_len]; exact info66) ?_))
    | (with_reducible show wpList _ _ _ (Oper.mk (some 82) _ _ _ _ _ :: _) _ _; go_must (refine wpList_load_mid rfl 66 (.tmp 9) rfl b9 0 rfl (cellsS x) _ HX9.out Try.underlying66 rfl (by rw [cellsS_len]; exact info66) ?_))
    | (with_reducible show wpList _ _ _ (Oper.mk (some 83) _ _ _ _ _ :: _) _ _; go_must (refine wpList_wrun rfl _ (Ph.run_bin (X := .agg (cellsS x).toArray) (Y := .agg (cellsS x).toArray) rfl rfl rfl (guard_sec _ _ _ _ _ _) (HEQ.out _)) ?_))
    | (with_reducible show wpList _ _ _ (Oper.mk (some 89) _ _ _ _ _ :: _) _ _; go_must (refine wpList_wrun rfl _ (Ph.run_bin (X := .int .i64 v) (Y := .int .i64 v) rfl rfl rfl rfl (HE.out _)) ?_))
    | (go_at_call 43; refine (num_any _ _).mono ?_; rintro o w' ⟨rfl, e⟩; obtain rfl := e.symm; clear e))
  go_ret
  exact HS5.out.pair HAL.out
end
def Rk.stepS (R : Rk) (a : Ac) : Sm := if a.kind = 0 ∨ a.kind = 1 then (R.write a.at_ a.s a.t).1.sm else if a.kind = 2 then R.syncS a.ts else if a.kind = 3 then R.barrier.1.sm else if a.kind = 5 then (R.fail a.bad).sm else R.sm
/-- an act, whatever it is -/
theorem step_any {w0 w : World} {g1 g2 : Nat} {F1 F2 : Nat → Prop} {D : Dk} {R : Rk} {k : Nat} (h : PairV w0 w g1 g2 F1 F2 D R) (hal : Alike k D R) (hk : k ≤ 100) (a : Ac) (hok : OkB w0 w0.heap.size a) (hts : a.ts.length ≤ 50) (hbs : a.bad.length ≤ 50) :
    Calls Try.prog 55 #[.pointer (some ⟨g1, 0, none⟩), .pointer (some ⟨g2, 0, none⟩), .agg (cellsA a).toArray] w (StepTo w0 g1 g2 (k + 1) (R.stepS a)) := by
  unfold Rk.stepS
  by_cases h0 : a.kind = 0
  · rw [if_pos (.inl h0)]
    exact step_write h hal hk a hok (.inl h0)
  by_cases h1 : a.kind = 1
  · rw [if_pos (.inr h1)]
    exact step_write h hal hk a hok (.inr h1)
  rw [if_neg (fun h => h.elim h0 h1)]
  by_cases h2 : a.kind = 2
  · rw [if_pos h2]
    exact step_sync h hal hk a hok hts h2
  rw [if_neg h2]
  by_cases h3 : a.kind = 3
  · rw [if_pos h3]
    exact step_barrier h hal hk a h3
  rw [if_neg h3]
  by_cases h5 : a.kind = 5
  · rw [if_pos h5]
    exact step_fail h hal hk a hok hbs h5
  rw [if_neg h5]
  exact step_read h hal hk a ⟨h0, h1, h2, h3, h5⟩
end Go.Proofs.Ytikhhipgamllgaa
namespace Go.Proofs.Ytikhhipgamllgaa
open Go.RowKit Ph
/-! ### behind a step: what is told -/
def Good (w0 : World) (g1 g2 k : Nat) (m : Sm) (W : World) : Prop := ∃ F1 F2 D R, PairV w0 W g1 g2 F1 F2 D R ∧ Alike k D R ∧ R.sm = m
def RdS (W : World) (v : Value) (l : List Sec) : Prop := ∃ A c, v = .slice A l.length c ∧ Reads W W.heap.size 32 A l.length (l.flatMap cellsS)
def RdW (W : World) (v : Value) (l : List Wr) : Prop := ∃ A c, v = .slice A l.length c ∧ Reads W W.heap.size 36 A l.length (l.flatMap cellsW)
def RdE (W : World) (v : Value) (l : List (Int × Wr × List Tg)) : Prop := ∃ (A : Option Addr) (c : Nat) (es : List Ev), v = .slice A es.length c ∧ es.map sigE = l ∧ Reads W W.heap.size 38 A es.length (es.flatMap cellsE) ∧ ∀ e ∈ es, Reads W W.heap.size 2 e.A e.tags.length (e.tags.flatMap cellsT)
theorem keep_rdS (l : List Sec) : Keeps (fun W W' => Below W.heap.size W W') fun v w => RdS w v l := fun _ _ _ hb ⟨A, c, e, h⟩ => ⟨A, c, e, (h.below hb).more hb.size⟩
theorem keep_rdW (l : List Wr) : Keeps (fun W W' => Below W.heap.size W W') fun v w => RdW w v l := fun _ _ _ hb ⟨A, c, e, h⟩ => ⟨A, c, e, (h.below hb).more hb.size⟩
theorem keep_rdE (l : List (Int × Wr × List Tg)) : Keeps (fun W W' => Below W.heap.size W W') fun v w => RdE w v l := fun _ _ _ hb ⟨A, c, es, e, hs, h, ht⟩ => ⟨A, c, es, e, hs, (h.below hb).more hb.size, fun x hx => ((ht x hx).below hb).more hb.size⟩
section
variable {w0 W W' : World} {g1 g2 k : Nat} {m : Sm}
theorem Good.grow (h : Good w0 g1 g2 k m W) (hb : Below W.heap.size W W') : Good w0 g1 g2 k m W' := by
  obtain ⟨F1, F2, D, R, hp, ha, hm⟩ := h
  exact ⟨F1, F2, D, R, hp.grow hb, ha, hm⟩
theorem Good.len (h : Good w0 g1 g2 k m W) (hk : k ≤ 200) : m.safe.length ≤ 1000 ∧ m.wait.length ≤ 1000 ∧ m.log.length ≤ 1000 ∧ ∀ x ∈ m.log, x.2.2.length ≤ 1000 := by
  obtain ⟨F1, F2, D, R, hp, ha, rfl⟩ := h
  refine ⟨?_, ?_, ?_, ?_⟩
  · show R.safe.length ≤ 1000; rw [ha.len]; have := ha.le; omega
  · show R.wait.length ≤ 1000; rw [← ha.wait]; have := ha.wl; omega
  · show (R.log.map sigE).length ≤ 1000; rw [← ha.log, List.length_map]; have := ha.ll; omega
  · show ∀ x ∈ R.log.map sigE, x.2.2.length ≤ 1000
    rw [← ha.log]
    intro x hx
    obtain ⟨e, he, rfl⟩ := List.mem_map.1 hx
    have := ha.tl e he
    show e.tags.length ≤ 1000
    omega
theorem Good.dsafe (h : Good w0 g1 g2 k m W) : Calls Try.prog 56 #[.pointer (some ⟨g1, 0, none⟩)] W fun o W' => ∃ v, o = .returned v ∧ RdS W' v m.safe ∧ Below W.heap.size W W' ∧ Good w0 g1 g2 k m W' := by
  have h0 := h
  obtain ⟨F1, F2, D, R, hp, ha, hm⟩ := h
  obtain ⟨_, _, _, _, hd⟩ := hp.disk
  refine (safe_any hd ha.pos (by have := ha.le; omega)).mono ?_
  rintro o W' ⟨v, rfl, ho, hb⟩
  obtain ⟨A, c, rfl, hr⟩ := own_slice ho
  refine ⟨_, rfl, ?_, hb, h0.grow hb⟩
  have e : D.safe = m.safe := by rw [ha.safe, ← hm]; rfl
  rw [← e]
  exact ⟨A, c, rfl, hr⟩
theorem Good.dwait (h : Good w0 g1 g2 k m W) (hk : k ≤ 200) : Calls Try.prog 47 #[.pointer (some ⟨g1, 0, none⟩)] W fun o W' => ∃ v, o = .returned v ∧ RdW W' v m.wait ∧ Below W.heap.size W W' ∧ Good w0 g1 g2 k m W' := by
  have h0 := h
  obtain ⟨F1, F2, D, R, hp, ha, hm⟩ := h
  obtain ⟨_, _, _, _, hd⟩ := hp.disk
  refine (waiting_any hd ha.pos (by have := ha.wl; omega)).mono ?_
  rintro o W' ⟨v, rfl, ho, hb⟩
  obtain ⟨A, c, rfl, hr⟩ := own_slice ho
  refine ⟨_, rfl, ?_, hb, h0.grow hb⟩
  have e : D.wait = m.wait := by rw [ha.wait, ← hm]; rfl
  rw [← e]
  exact ⟨A, c, rfl, hr⟩
theorem Good.dlog (h : Good w0 g1 g2 k m W) (hk : k ≤ 200) : Calls Try.prog 59 #[.pointer (some ⟨g1, 0, none⟩)] W fun o W' => ∃ v, o = .returned v ∧ RdE W' v m.log ∧ Below W.heap.size W W' ∧ Good w0 g1 g2 k m W' := by
  have h0 := h
  obtain ⟨F1, F2, D, R, hp, ha, hm⟩ := h
  obtain ⟨_, _, _, _, hd⟩ := hp.disk
  refine (log_any hd ha.pos (by have := ha.ll; omega) (fun e he => by have := ha.tl e he; omega)).mono ?_
  rintro o W' ⟨v, fs, rfl, ho, hb⟩
  obtain ⟨A, c, rfl, hr⟩ := own_slice ho.row
  refine ⟨_, rfl, ⟨A, c, fs, by rw [ho.len], by rw [ho.sig, ha.log, ← hm]; rfl, by rw [ho.len]; exact hr, fun e he => ?_⟩, hb, h0.grow hb⟩
  obtain ⟨j, hj⟩ := List.getElem?_of_mem he
  have := ho.own j e (by rw [← ho.len]; exact (List.getElem?_eq_some_iff.1 hj).1) hj
  exact Reads.of_own this
theorem Good.depoch (h : Good w0 g1 g2 k m W) : Calls Try.prog 60 #[.pointer (some ⟨g1, 0, none⟩)] W fun o W' => o = .returned (.int .i64 m.ep) ∧ W' = W := by
  obtain ⟨F1, F2, D, R, hp, ha, hm⟩ := h
  obtain ⟨_, _, _, _, hd⟩ := hp.disk
  have e : D.ep = m.ep := by rw [ha.ep, ← hm]; rfl
  rw [← e]
  exact epoch_any hd ha.pos
theorem Good.rsafe (h : Good w0 g1 g2 k m W) : ∃ v, (Instr.loadAt 40 (.pointer (some ⟨g2, 0, none⟩))).run Try.prog W = .ok v W ∧ RdS W v m.safe := by
  obtain ⟨F1, F2, D, R, hp, ha, hm⟩ := h
  obtain ⟨_, _, _, _, hd⟩ := hp.refd
  obtain ⟨A, c, rfl, hr⟩ := own_slice hd.safe.1
  have e : R.safe = m.safe := by rw [← hm]; rfl
  refine ⟨.slice A R.safe.length c, ld40 (hd.cell 0), ?_⟩
  rw [← e]
  exact ⟨A, c, rfl, hr⟩
theorem Good.rwait (h : Good w0 g1 g2 k m W) : ∃ v, (Instr.loadAt 41 (.pointer (some ⟨g2, 1, none⟩))).run Try.prog W = .ok v W ∧ RdW W v m.wait := by
  obtain ⟨F1, F2, D, R, hp, ha, hm⟩ := h
  obtain ⟨_, _, _, _, hd⟩ := hp.refd
  obtain ⟨A, c, rfl, hr⟩ := own_slice hd.wait.1
  have e : R.wait = m.wait := by rw [← hm]; rfl
  refine ⟨.slice A R.wait.length c, ld41 (hd.cell 1), ?_⟩
  rw [← e]
  exact ⟨A, c, rfl, hr⟩
theorem Good.rlog (h : Good w0 g1 g2 k m W) : ∃ v, (Instr.loadAt 89 (.pointer (some ⟨g2, 3, none⟩))).run Try.prog W = .ok v W ∧ RdE W v m.log := by
  obtain ⟨F1, F2, D, R, hp, ha, hm⟩ := h
  obtain ⟨_, _, _, _, hd⟩ := hp.refd
  obtain ⟨A, c, rfl, hr⟩ := own_slice hd.log.1
  have e : R.log.map sigE = m.log := by rw [← hm]; rfl
  exact ⟨_, ld89 (hd.cell 3), A, c, R.log, rfl, e, hr, fun x hx => Reads.of_own (hd.tags x hx).1⟩
theorem Good.repoch (h : Good w0 g1 g2 k m W) : (Instr.loadAt 3 (.pointer (some ⟨g2, 2, none⟩))).run Try.prog W = .ok (.int .i64 m.ep) W := by
  obtain ⟨F1, F2, D, R, hp, ha, hm⟩ := h
  obtain ⟨_, _, _, _, hd⟩ := hp.refd
  have e : R.ep = m.ep := by rw [← hm]; rfl
  rw [← e]
  exact ld3 (hd.cell 2)
theorem drew_below (W : World) (n : Nat) : Below W.heap.size W (W.drewN n) := ⟨rfl, rfl, rfl, Nat.le_refl _, fun _ _ => rfl⟩
end
/-! ### a clone beside them -/
structure Trip (w0 W : World) (g1 g2 q : Nat) (F1 F2 F3 : Nat → Prop) (D : Dk) (R : Rk) (C : Dk) : Prop where
  pair : PairV w0 W g1 g2 F1 F2 D R
  cl : DiskAt W F3 q C
  s13 : ∀ j, F1 j → ¬ F3 j
  s23 : ∀ j, F2 j → ¬ F3 j
  base3 : ∀ j, F3 j → w0.heap.size ≤ j
def Tr (w0 : World) (g1 g2 q : Nat) (D : Dk) (R : Rk) (C : Dk) (W : World) : Prop := ∃ F1 F2 F3, Trip w0 W g1 g2 q F1 F2 F3 D R C
section
variable {w0 W W' : World} {g1 g2 q k : Nat} {F1 F2 F3 : Nat → Prop} {D D' C : Dk} {R R' : Rk}
theorem Tr.of (h : PairV w0 W g1 g2 F1 F2 D R) (hc : DiskAt W' (fun j => W.heap.size ≤ j ∧ j < W'.heap.size) q C) (hb : Below W.heap.size W W') : Tr w0 g1 g2 q D R C W' :=
  ⟨F1, F2, _, h.grow hb, hc, fun j h1 h3 => by have := h.disk.lt j h1; omega, fun j h2 h3 => by have := h.refd.lt j h2; omega, fun j h3 => Nat.le_trans h.below.size h3.1⟩
theorem Trip.turn (h : Trip w0 W g1 g2 q F1 F2 F3 D R C) (ht : Turned W F1 g1 D' W') : Tr w0 g1 g2 q D' R C W' := by
  obtain ⟨F', hp, hw, ho⟩ := h.pair.turnD ht
  refine ⟨F', F2, F3, hp, h.cl.keep ho (fun j h3 h1 => h.s13 j h1 h3), fun j h1 h3 => ?_, h.s23, h.base3⟩
  rcases hw j h1 with h4 | h4
  · exact h.s13 j h4 h3
  · have := h.cl.lt j h3; omega
theorem Trip.grow (h : Trip w0 W g1 g2 q F1 F2 F3 D R C) (hb : Below W.heap.size W W') : Trip w0 W' g1 g2 q F1 F2 F3 D R C := ⟨h.pair.grow hb, h.cl.below hb, h.s13, h.s23, h.base3⟩
theorem Tr.grow (h : Tr w0 g1 g2 q D R C W) (hb : Below W.heap.size W W') : Tr w0 g1 g2 q D R C W' := by
  obtain ⟨F1, F2, F3, ht⟩ := h
  exact ⟨F1, F2, F3, ht.grow hb⟩
theorem Tr.done (h : Tr w0 g1 g2 q D R C W) : ∃ F1 F2, PairV w0 W q g2 F1 F2 C R := by
  obtain ⟨F1, F2, F3, ht⟩ := h
  exact ⟨F3, F2, ht.cl, ht.pair.refd, fun j h3 h2 => ht.s23 j h2 h3, ht.base3, ht.pair.base2, ht.pair.below⟩
theorem Tr.barrier (h : Tr w0 g1 g2 q D R C W) (ha : Alike k D R') (hk : k ≤ 200) : Calls Try.prog 46 #[.pointer (some ⟨g1, 0, none⟩)] W fun o W' => o = .returned (.int .i64 D.barrier.2) ∧ Tr w0 g1 g2 q D.barrier.1 R C W' := by
  obtain ⟨F1, F2, F3, ht⟩ := h
  obtain ⟨_, _, _, _, hd⟩ := ht.pair.disk
  refine (barrier_any hd ha.pos (by have := ha.nl; omega) (by have := ha.el; omega) (by have := ha.ll; omega)).mono ?_
  rintro o W' ⟨rfl, h1⟩
  exact ⟨rfl, ht.turn h1⟩
theorem Tr.write (h : Tr w0 g1 g2 q D R C W) (ha : Alike k D R') (hk : k ≤ 200) (at_ : Int) (s : Sec) (t : Tg) : Calls Try.prog 45 #[.pointer (some ⟨g1, 0, none⟩), .int .i64 at_, .agg (cellsS s).toArray, .agg (cellsT t).toArray] W fun o W' => o = .returned (.int .i64 (D.write at_ s t).2) ∧ Tr w0 g1 g2 q (D.write at_ s t).1 R C W' := by
  obtain ⟨F1, F2, F3, ht⟩ := h
  obtain ⟨_, _, _, _, hd⟩ := ht.pair.disk
  refine (write_any hd ha.pos (by have := ha.nl; omega) (by have := ha.wl; omega) (by have := ha.ll; omega) at_ s t).mono ?_
  rintro o W' ⟨rfl, h1⟩
  exact ⟨rfl, ht.turn h1⟩
theorem Tr.sync (h : Tr w0 g1 g2 q D R C W) (ha : Alike k D R') (hk : k ≤ 200) (t : Tg) (hok : okT t) : Calls Try.prog 48 #[.pointer (some ⟨g1, 0, none⟩), .slice (some ⟨W.heap.size, 0, none⟩) 1 1] (W.alloc (.cells (cellsT t).toArray 69)) fun o W' => ∃ v D', o = .returned v ∧ DSync D [t] D' ∧ Tr w0 g1 g2 q D' R C W' := by
  obtain ⟨F1, F2, F3, ht⟩ := h
  have ht2 := ht.grow (W' := W.alloc (.cells (cellsT t).toArray 69)) ((Below.refl _ W).alloc (Nat.le_refl _) _)
  have hk0 := Blk.new W 69 (cellsT t).toArray
  obtain ⟨_, _, _, _, hd⟩ := ht2.pair.disk
  have hnF : ¬ F1 W.heap.size := fun hf => Nat.lt_irrefl _ (ht.pair.disk.lt _ hf)
  refine (sync_any hd ha.pos (by have := ha.le; omega) (by have := ha.wl; omega) (by have := ha.nl; omega) (by have := ha.ll; omega) ha.okw (some ⟨W.heap.size, 0, none⟩) 1 [t] (by simp) (fun x hx => by cases List.mem_singleton.1 hx; exact hok) (fun W' ho => by
    have := reads_blk (size := 2) (n := 1) (ho.blk hk0 hnF) rfl
    simpa using this)).mono ?_
  rintro o W' (⟨f, rfl, h1⟩ | ⟨f, rfl, A', c', h1⟩)
  · exact ⟨_, _, rfl, .inl ⟨f, rfl⟩, ht2.turn h1⟩
  · exact ⟨_, _, rfl, .inr ⟨f, A', c', rfl⟩, ht2.turn h1⟩
theorem Tr.fail (h : Tr w0 g1 g2 q D R C W) (hp : 0 < D.safe.length) (l : List Int) (hl : l.length ≤ 50) (hok : ∀ x ∈ l, okI x) : Calls Try.prog 54 #[.pointer (some ⟨g1, 0, none⟩), .slice (some ⟨W.heap.size, 0, none⟩) l.length l.length] (W.alloc (.cells (iz l).toArray 3)) fun o W' => o = .returned (.tuple #[]) ∧ Tr w0 g1 g2 q (D.fail l) R C W' := by
  obtain ⟨F1, F2, F3, ht⟩ := h
  have ht2 := ht.grow (W' := W.alloc (.cells (iz l).toArray 3)) ((Below.refl _ W).alloc (Nat.le_refl _) _)
  have hk0 := Blk.new W 3 (iz l).toArray
  obtain ⟨_, _, _, _, hd⟩ := ht2.pair.disk
  have hnF : ¬ F1 W.heap.size := fun hf => Nat.lt_irrefl _ (ht.pair.disk.lt _ hf)
  have hlen : (iz l).length = l.length * 1 := by simp [iz]
  refine (fail_any hd hp (some ⟨W.heap.size, 0, none⟩) l.length l (by omega) hok (fun W' ho => reads_blk (ho.blk hk0 hnF) hlen)).mono ?_
  rintro o W' ⟨rfl, h1⟩
  exact ⟨rfl, ht2.turn h1⟩
theorem rsync_ex (R : Rk) (ts : List Tg) : ∃ R', RSync R ts R' := by
  cases h : R.fails with
  | true => exact ⟨_, .inl ⟨h, rfl⟩⟩
  | false => exact ⟨_, .inr ⟨h, none, 0, rfl⟩⟩
end
theorem mkS9 (w : World) : (Instr.build 66 #[(0, .int .u8 9)]).run Try.prog w = .ok (.agg (cellsS (secN 9)).toArray) w := by kernel_rfl
theorem bld33_2 (w : World) : (Instr.buildSlice 33 2 #[(0, .int .i64 0), (1, .int .i64 1)]).run Try.prog w = .ok (.slice (some ⟨w.heap.size, 0, none⟩) 2 2) (w.alloc (.cells (iz [0, 1]).toArray 3)) := by kernel_rfl
theorem okT0 : okT ⟨0, 0⟩ := ⟨rfl, rfl⟩
theorem ok01 : ∀ x ∈ [(0 : Int), 1], okI x := fun x hx => by
  rcases List.mem_cons.1 hx with rfl | hx
  · rfl
  · cases List.mem_singleton.1 hx; rfl
end Go.Proofs.Ytikhhipgamllgaa
namespace Go.Proofs.Ytikhhipgamllgaa
open Go.RowKit Ph
set_option linter.unusedVariables false
theorem cf55 (args : Array Value) (w : World) : (callFunc 55 args).run Try.prog w = .ok (.enter 55 args) w := by kernel_rfl
theorem cf34 (args : Array Value) (w : World) : (callFunc 34 args).run Try.prog w = .ok (.enter 34 args) w := by kernel_rfl
theorem cf57 (args : Array Value) (w : World) : (callFunc 57 args).run Try.prog w = .ok (.enter 57 args) w := by kernel_rfl
theorem cf58 (args : Array Value) (w : World) : (callFunc 58 args).run Try.prog w = .ok (.enter 58 args) w := by kernel_rfl
theorem cf60 (args : Array Value) (w : World) : (callFunc 60 args).run Try.prog w = .ok (.enter 60 args) w := by kernel_rfl
theorem run_indexAddr {P : Program} {o : Oper} {a : Act} {w : World} {t : TypeId} {x i : Operand} {X I V : Value} (ho : o.op = .indexAddr t x i) (hx : a.eval x = X) (hi : a.eval i = I) (h : (Instr.indexAt t X I).run P w = .ok V w) : (execOp a.eval o).run P w = .ok (.value V) w := by
  unfold execOp; simp only [ho, hx, hi, h, Sem.run_bind, Result.andThen_ok, Sem.run_pure]
theorem ix58 {bb ob n c k : Nat} (h : k < n) (W : World) : (Instr.indexAt 58 (.slice (some ⟨bb, ob, none⟩) n c) (.int .i64 (k : Nat))).run Try.prog W = .ok (.pointer (some ⟨bb, ob + k * 38, none⟩)) W := by
  have h1 : (k : Int) < (n : Int) := by omega
  go_simp
def plA0 (gd g2 bb ob n c j : Nat) (a : Ac) (m : Sm) : Lvs :=
  [eqv (.pointer (some ⟨gd, 0, none⟩)),
   eqv (.pointer (some ⟨g2, 0, none⟩)),
   eqv (.slice (some ⟨bb, ob, none⟩) n c),
   eqv (.int .i64 (j : Nat)),
   eqv (.pointer (some ⟨bb, ob + j * 38, none⟩)),
   eqv (.agg (cellsA a).toArray),
   fun _ _ => False,
   fun _ _ => False,
   fun _ _ => False,
   fun _ _ => False,
   fun _ _ => False,
   fun _ _ => False,
   fun _ _ => False,
   fun _ _ => False,
   fun _ _ => False,
   fun _ _ => False,
   fun _ _ => False,
   fun _ _ => False,
   fun _ _ => False,
   fun _ _ => False,
   fun _ _ => False,
   fun _ _ => False,
   fun _ _ => False,
   fun _ _ => False,
   fun _ _ => False,
   fun _ _ => False,
   fun _ _ => False,
   fun _ _ => False,
   fun _ _ => False,
   fun _ _ => False,
   fun _ _ => False,
   fun _ _ => False,
   fun _ _ => False,
   fun _ _ => False,
   fun _ _ => False,
   fun _ _ => False,
   fun _ _ => False,
   fun _ _ => False,
   fun _ _ => False,
   fun _ _ => False,
   fun _ _ => False,
   fun _ _ => False,
   fun _ _ => False,
   fun _ _ => False,
   fun _ _ => False,
   fun _ _ => False,
   fun _ _ => False]
def plA1 (gd g2 bb ob n c j : Nat) (a : Ac) (m : Sm) : Lvs :=
  [eqv (.pointer (some ⟨gd, 0, none⟩)),
   eqv (.pointer (some ⟨g2, 0, none⟩)),
   eqv (.slice (some ⟨bb, ob, none⟩) n c),
   eqv (.int .i64 (j : Nat)),
   eqv (.pointer (some ⟨bb, ob + j * 38, none⟩)),
   eqv (.agg (cellsA a).toArray),
   eqv (.bool true),
   eqv (.bool false),
   eqv (.bool false),
   eqv (.pointer (some ⟨gd, 0, none⟩)),
   fun v w => RdS w v m.safe,
   eqv (.pointer (some ⟨g2, 0, none⟩)),
   eqv (.pointer (some ⟨g2, 0, none⟩)),
   eqv (.pointer (some ⟨g2, 0, none⟩)),
   fun v w => RdS w v m.safe,
   eqv (.bool true),
   eqv (.bool false),
   eqv (.bool false),
   eqv (.bool false),
   eqv (.pointer (some ⟨gd, 0, none⟩)),
   fun v w => RdW w v m.wait,
   eqv (.pointer (some ⟨g2, 0, none⟩)),
   eqv (.pointer (some ⟨g2, 0, none⟩)),
   eqv (.pointer (some ⟨g2, 1, none⟩)),
   fun v w => RdW w v m.wait,
   eqv (.bool true),
   eqv (.bool false),
   eqv (.bool false),
   eqv (.bool false),
   eqv (.pointer (some ⟨gd, 0, none⟩)),
   fun v w => RdE w v m.log,
   eqv (.pointer (some ⟨g2, 0, none⟩)),
   eqv (.pointer (some ⟨g2, 0, none⟩)),
   eqv (.pointer (some ⟨g2, 3, none⟩)),
   fun v w => RdE w v m.log,
   eqv (.bool true),
   eqv (.bool false),
   eqv (.bool false),
   eqv (.bool false),
   eqv (.pointer (some ⟨gd, 0, none⟩)),
   eqv (.int .i64 m.ep),
   eqv (.pointer (some ⟨g2, 0, none⟩)),
   eqv (.pointer (some ⟨g2, 0, none⟩)),
   eqv (.pointer (some ⟨g2, 2, none⟩)),
   eqv (.int .i64 m.ep),
   eqv (.bool false),
   eqv (.bool false)]
theorem plA_keep (gd g2 bb ob n c j : Nat) (a : Ac) (m : Sm) : ∀ L ∈ [plA0 gd g2 bb ob n c j a m, plA1 gd g2 bb ob n c j a m], ∀ q ∈ L, Keeps (fun W W' => Below W.heap.size W W') q := by
  simp only [plA0, plA1, List.forall_mem_cons]
  refine ⟨?_, ?_, by simp⟩
  all_goals
    repeat (first | refine ⟨keep_eqv _ _, ?_⟩ | refine ⟨keep_pure _ _, ?_⟩ | refine ⟨keep_rdS _, ?_⟩ | refine ⟨keep_rdW _, ?_⟩ | refine ⟨keep_rdE _, ?_⟩)
    simp
theorem plA_turns (gd g2 bb ob n c j : Nat) (a : Ac) (m : Sm) : TurnsAll [plA0 gd g2 bb ob n c j a m, plA1 gd g2 bb ob n c j a m] := by
  simp only [plA0, plA1, TurnsAll, Turns]
  refine ⟨?_, trivial⟩
  all_goals
    repeat (first | refine ⟨turn_eqv _, ?_⟩ | refine ⟨turn_false _, ?_⟩ | refine ⟨turn_true _, ?_⟩)
    trivial
set_option maxRecDepth 100000 in
set_option maxHeartbeats 16000000 in
theorem plays_long (AI : Option Addr) (nI cI : Nat) (A : Option Addr) (n c : Nat) (w : World) (h : 200 < nI) : Calls Try.prog 9 #[.slice AI nI cI, .slice A n c] w fun o w' => o = .returned (.bool true) ∧ Below w.heap.size w w' := by
  have e1 : decide ((nI : Int) > 200) = true := by simp; omega
  have e1' : decide ((200 : Int) < nI) = true := e1
  clear h
  go_enter Try.func9, Try.ntmps9
  go_wp2_with (go_at_call 41; refine (knows5_any _).mono ?_; rintro o w1 ⟨rfl, hb1⟩; have HB1 := Lib.hid hb1; clear hb1)
  go_ret
  exact ⟨rfl, HB1.out⟩
set_option maxRecDepth 100000 in
set_option maxHeartbeats 16000000 in
theorem plays_dark (AI : Option Addr) (nI cI : Nat) (A : Option Addr) (c : Nat) (acts : List Ac) (w : World) (h : nI ≤ 200) (hr : Reads w w.heap.size 38 A acts.length (acts.flatMap cellsA)) (hl : lightB acts 60 = false) :
    Calls Try.prog 9 #[.slice AI nI cI, .slice A acts.length c] w fun o w' => o = .returned (.bool true) ∧ Below w.heap.size w w' := by
  have CL : Hid (Calls Try.prog 40 #[.slice A acts.length c, .int .i64 60] w fun o w' => o = .returned (.bool (lightB acts 60)) ∧ w' = w) := Lib.hid (light_any A c acts 60 w hr)
  have e1 : decide ((nI : Int) > 200) = false := by simp; omega
  have e1' : decide ((200 : Int) < nI) = false := e1
  obtain ⟨n, hn⟩ : ∃ n, n = acts.length := ⟨_, rfl⟩
  rw [hl, ← hn] at CL
  rw [← hn]
  clear h hr hl hn
  go_enter Try.func9, Try.ntmps9
  go_wp2_with (first
    | (go_at_call 40; refine CL.out.mono ?_; rintro o w' ⟨rfl, e⟩; obtain rfl := e.symm; clear e)
    | (go_at_call 41; refine (knows5_any _).mono ?_; rintro o w1 ⟨rfl, hb1⟩; have HB1 := Lib.hid hb1; clear hb1))
  go_ret
  exact ⟨rfl, HB1.out⟩
set_option maxRecDepth 100000 in
set_option maxHeartbeats 16000000 in
theorem plays_bad (AI : Option Addr) (nI cI : Nat) (A : Option Addr) (c : Nat) (acts : List Ac) (w : World) (h : nI ≤ 200) (hr : Reads w w.heap.size 38 A acts.length (acts.flatMap cellsA)) (hl : lightB acts 60 = true) (hb : (nI : Int) < 1 ∨ 65 < (nI : Int)) :
    Calls Try.prog 9 #[.slice AI nI cI, .slice A acts.length c] w fun o w' => o = .returned (.bool true) ∧ Below w.heap.size w w' := by
  have CL : Hid (Calls Try.prog 40 #[.slice A acts.length c, .int .i64 60] w fun o w' => o = .returned (.bool (lightB acts 60)) ∧ w' = w) := Lib.hid (light_any A c acts 60 w hr)
  have CD : Hid (∀ W, Calls Try.prog 51 #[.slice AI nI cI] W fun o w' => o = .returned (.tuple #[.pointer none, .int .i64 1]) ∧ w' = W) := Lib.hid (fun W => bfrom_bad AI nI cI W hb)
  have CR : Hid (∀ W, Calls Try.prog 52 #[.slice AI nI cI] W fun o w' => o = .returned (.tuple #[.pointer none, .int .i64 1]) ∧ w' = W) := Lib.hid (fun W => rfrom_bad AI nI cI W hb)
  have e1 : decide ((nI : Int) > 200) = false := by simp; omega
  have e1' : decide ((200 : Int) < nI) = false := e1
  obtain ⟨n, hn⟩ : ∃ n, n = acts.length := ⟨_, rfl⟩
  rw [hl, ← hn] at CL
  rw [← hn]
  clear h hr hl hn hb
  go_enter Try.func9, Try.ntmps9
  go_wp2_with (first
    | (go_at_call 40; refine CL.out.mono ?_; rintro o w' ⟨rfl, e⟩; obtain rfl := e.symm; clear e)
    | (go_at_call 41; refine (knows5_any _).mono ?_; rintro o w1 ⟨rfl, hb1⟩; have HB1 := Lib.hid hb1; clear hb1)
    | (go_at_call 43; refine (num_any _ _).mono ?_; rintro o w' ⟨rfl, e⟩; obtain rfl := e.symm; clear e)
    | (go_at_call 51; refine (CD.out _).mono ?_; rintro o w' ⟨rfl, e⟩; obtain rfl := e.symm; clear e)
    | (go_at_call 52; refine (CR.out _).mono ?_; rintro o w' ⟨rfl, e⟩; obtain rfl := e.symm; clear e))
  go_loopw [9] (fun i wr => i = .int .i64 0 ∧ Hid (Below w.heap.size w wr)) (fun _ _ => 0)
  case atStart => exact ⟨rfl, HB1⟩
  case round =>
    obtain ⟨rfl, HB⟩ := hrel
    by_cases hz : (0 : Int) < (n : Int)
    · go_wp2_with fail
      go_ret
      exact ⟨rfl, HB.out⟩
    · obtain rfl : n = 0 := by omega
      clear hz
      go_wp2_with fail
      go_ret
      exact ⟨rfl, HB.out⟩
set_option maxRecDepth 100000 in
set_option maxHeartbeats 32000000 in
theorem plays_good (AI : Option Addr) (cI : Nat) (img : List Sec) (A : Option Addr) (c : Nat) (acts : List Ac) (w : World) (hi0 : 0 < img.length) (hi1 : img.length ≤ 65) (hri : Reads w w.heap.size 32 AI img.length (img.flatMap cellsS)) (hr : Reads w w.heap.size 38 A acts.length (acts.flatMap cellsA)) (hl : lightB acts 60 = true) (hok : ∀ a ∈ acts, OkB w w.heap.size a) :
    Calls Try.prog 9 #[.slice AI img.length cI, .slice A acts.length c] w fun o w' => o = .returned (.bool true) ∧ Below w.heap.size w w' := by
  have CL : Hid (Calls Try.prog 40 #[.slice A acts.length c, .int .i64 60] w fun o w' => o = .returned (.bool (lightB acts 60)) ∧ w' = w) := Lib.hid (light_any A c acts 60 w hr)
  have CD : Hid (∀ W, Below w.heap.size w W → Calls Try.prog 51 #[.slice AI img.length cI] W (GotDisk W (Dk.of img))) := Lib.hid (fun W hb => bfrom_any AI cI img hi0 hi1 W ((hri.below hb).more hb.size))
  have CR : Hid (∀ W, Below w.heap.size w W → Calls Try.prog 52 #[.slice AI img.length cI] W (GotRef W img)) := Lib.hid (fun W hb => rfrom_any AI cI img hi0 hi1 W ((hri.below hb).more hb.size))
  have HAL0 := Lib.hid (alike_of img hi0 hi1)
  obtain ⟨nI, hnI⟩ : ∃ n, n = img.length := ⟨_, rfl⟩
  obtain ⟨n, hn⟩ : ∃ n, n = acts.length := ⟨_, rfl⟩
  have HN := Lib.hid hn
  have hn60 : n ≤ 60 := by
    have h := hl
    unfold lightB at h
    have := (Bool.and_eq_true _ _).mp h
    have := of_decide_eq_true this.2
    rw [hn]; exact this
  have HLIT : Hid (∀ a ∈ acts, a.ts.length ≤ 50 ∧ a.bad.length ≤ 50) := Lib.hid (fun a ha => by
    have h := hl
    unfold lightB at h
    have h1 := ((Bool.and_eq_true _ _).mp h).1
    rw [List.take_of_length_le (by omega)] at h1
    have h2 := List.all_eq_true.1 h1 a ha
    unfold litB at h2
    have h3 := (Bool.and_eq_true _ _).mp h2
    exact ⟨of_decide_eq_true h3.1, of_decide_eq_true h3.2⟩)
  have e1 : decide ((nI : Int) > 200) = false := by simp; omega
  have e1' : decide ((200 : Int) < nI) = false := e1
  rw [hl, ← hn] at CL
  rw [← hnI] at CD CR
  rw [← hn, ← hnI]
  have HR := Lib.hid hr
  have HOK := Lib.hid hok
  clear hr hl hn hnI hri hok hi0 hi1
  go_enter Try.func9, Try.ntmps9
  go_wp2_with (first
    | (go_at_call 40; refine CL.out.mono ?_; rintro o w' ⟨rfl, e⟩; obtain rfl := e.symm; clear e)
    | (go_at_call 41; refine (knows5_any _).mono ?_; rintro o w1 ⟨rfl, hb1⟩; have HB1 := Lib.hid hb1; clear hb1)
    | (go_at_call 43; refine (num_any _ _).mono ?_; rintro o w' ⟨rfl, e⟩; obtain rfl := e.symm; clear e)
    | (go_at_call 51; refine (CD.out _ HB1.out).mono ?_; rintro o w2 ⟨g0, F1, rfl, hd2, hF2, hb2⟩; have HD2 := Lib.hid hd2; have HF2 := Lib.hid hF2; have HSZ2 := Lib.hid HB1.out.size; have HB2 := Lib.hid (below_then HB1.out hb2); clear hd2 hF2 hb2)
    | (go_at_call 52; refine (CR.out _ HB2.out).mono ?_; rintro o w3 ⟨b, g2, rfl, hd3, hb0, hg0, hb3⟩; have HD3 := Lib.hid hd3; have HBG := Lib.hid (And.intro hb0 hg0); have HB3 := Lib.hid hb3; clear hd3 hb0 hg0 hb3))
  have HPV0 : Hid (PairV w w3 g0 g2 F1 (fun k => k = g2 ∨ k = b) (Dk.of img) (Rk.of img)) := Lib.hid ⟨HD2.out.below HB3.out, ⟨_, _, _, _, HD3.out⟩, fun q h1 h2 => by have h3 := HD2.out.lt q h1; have h4 := HBG.out; rcases h2 with h2 | h2 <;> omega, fun q h1 => Nat.le_trans HSZ2.out (HF2.out q h1), fun q h2 => by have h4 := HBG.out; have h5 := HB2.out.size; rcases h2 with h2 | h2 <;> omega, below_then HB2.out HB3.out⟩
  clear HD2 HF2 HSZ2 HB2 HD3 HBG HB3 HB1 CL CD CR e1 e1'
  go_loopw [5, 9] (fun d i wr => ∃ (j gd : Nat) (F1 F2 : Nat → Prop) (D : Dk) (R : Rk), j ≤ n ∧ i = .int .i64 j ∧ d = .pointer (some ⟨gd, 0, none⟩) ∧ Hid (PairV w wr gd g2 F1 F2 D R) ∧ Hid (Alike j D R)) (fun _ i _ => n - (intOf i).toNat)
  case atStart => exact ⟨0, g0, _, _, _, _, by omega, rfl, rfl, HPV0, HAL0⟩
  case round =>
    clear HPV0 HAL0
    obtain ⟨j, gd, F1, F2, D, R, hj, rfl, rfl, HPV, HAL⟩ := hrel
    by_cases hlt : j < n
    · obtain ⟨a, ha⟩ : ∃ a, acts[j]? = some a := ⟨_, List.getElem?_eq_getElem (by rw [← HN.out]; exact hlt)⟩
      obtain ⟨bb, ob, rfl, hbb, hit⟩ := HR.out.item (f := cellsA) cellsA_len (by omega) (k := j) (by rw [← HN.out]; exact hlt)
      have HRA : Hid (∀ W, Below w.heap.size w W → W.rangeAt bb (ob + j * 38) (cellsA a)) := Lib.hid (fun W hW => rangeAt_below (hit j a ha) hW hbb)
      have hmem := List.mem_of_getElem? ha
      have HAO := Lib.hid (HOK.out a hmem)
      have HLT := Lib.hid (HLIT.out a hmem)
      have HIX : Hid (∀ W, (Instr.indexAt 58 (.slice (some ⟨bb, ob, none⟩) n c) (.int .i64 (j : Nat))).run Try.prog W = .ok (.pointer (some ⟨bb, ob + j * 38, none⟩)) W) := Lib.hid (ix58 hlt)
      have HK : Hid (j + 1 ≤ 200) := Lib.hid (by omega)
      obtain ⟨kd, hkd⟩ : ∃ kd, kd = a.kind := ⟨_, rfl⟩
      have hc0 : wr.cell? ⟨bb, ob + j * 38, none⟩ = some (.int .i64 kd) := by
        have := HRA.out wr HPV.out.below 0 _ (cellsA_kind a)
        rw [hkd]; simpa using this
      have hl1 : (j : Int) < (n : Int) := by omega
      clear ha hbb hit hmem hkd hlt
      by_cases h6 : kd = 6
      · subst h6
        have HCL := Lib.hid (show Calls Try.prog 53 #[.pointer (some ⟨gd, 0, none⟩)] wr (GotClone wr D) from (by
          obtain ⟨_, _, _, _, hd⟩ := HPV.out.disk
          have h := HAL.out
          exact clone_any hd h.pos (by have := h.le; omega) (by have := h.wl; omega) (by have := h.ll; omega) (fun e he => by have := h.tl e he; omega)))
        have H1 := Lib.hid HAL.out.barrier.2
        have H2 := Lib.hid (H1.out.write 0 (secN 9) ⟨0, 0⟩ okT0).2
        obtain ⟨s9, hs9⟩ : ∃ s, s = secN 9 := ⟨_, rfl⟩
        rw [← hs9] at H2
        have HS9 : Hid (∀ W, (Instr.build 66 #[(0, .int .u8 9)]).run Try.prog W = .ok (.agg (cellsS s9).toArray) W) := Lib.hid (by rw [hs9]; exact mkS9)
        clear hs9
        have HK6 : Hid (j + 1 ≤ 200 ∧ j ≤ 200 ∧ j + 1 + 1 ≤ 200) := Lib.hid (by omega)
        have HT0 : Hid (∀ W, (Instr.build 69 #[]).run Try.prog W = .ok (.agg (cellsT ⟨0, 0⟩).toArray) W) := Lib.hid mkT0
        obtain ⟨t0, ht0⟩ : ∃ t : Tg, t = ⟨0, 0⟩ := ⟨_, rfl⟩
        have HOT : Hid (okT t0) := Lib.hid (by rw [ht0]; exact okT0)
        rw [← ht0] at HT0 H2
        clear ht0
        obtain ⟨li, hli⟩ : ∃ l : List Int, l = [0, 1] := ⟨_, rfl⟩
        have HLI : Hid (li.length ≤ 50 ∧ (∀ x ∈ li, okI x)) := Lib.hid (by rw [hli]; exact ⟨by decide, ok01⟩)
        have HB33 : Hid (∀ W, (Instr.buildSlice 33 2 #[(0, .int .i64 0), (1, .int .i64 1)]).run Try.prog W = .ok (.slice (some ⟨W.heap.size, 0, none⟩) 2 2) (W.alloc (.cells (iz li).toArray 3))) := Lib.hid (by rw [hli]; exact bld33_2)
        have HLI2 : Hid (li.length = 2) := Lib.hid (by rw [hli]; rfl)
        clear hli
        go_wp2_with (first
          | (go_at_call 53; refine HCL.out.mono ?_; rintro o w4 ⟨gd, fs, rfl, hsig, hc4, hb4⟩; have HSIG := Lib.hid hsig; have HT4 := Lib.hid (Tr.of HPV.out hc4 hb4); clear hsig hc4 hb4)
          | (go_at_call 46; refine (HT4.out.barrier HAL.out HK6.out.2.1).mono ?_; rintro o w5 ⟨rfl, ht5⟩; have HT5 := Lib.hid ht5; clear ht5)
          | (with_reducible show wpList _ _ _ (Oper.mk _ (Op.build 66 _) _ _ _ _ :: _) _ _; go_must (refine wpList_wrun rfl _ (run_build1 (X := .int .u8 9) rfl rfl (HS9.out _)) ?_))
          | (with_reducible show wpList _ _ _ (Oper.mk _ (Op.build 69 _) _ _ _ _ :: _) _ _; go_must (refine wpList_wrun rfl _ (run_build0 (V := .agg (cellsT t0).toArray) rfl (HT0.out _)) ?_))
          | (go_at_call 45; refine (HT5.out.write H1.out HK6.out.1 0 s9 t0).mono ?_; rintro o w6 ⟨rfl, ht6⟩; have HT6 := Lib.hid ht6; clear ht6)
          | (with_reducible show wpList _ _ _ (Oper.mk (some 72) _ _ _ _ _ :: _) _ _; go_must (refine wpList_wrun rfl _ (run_bld1 (X := .agg (cellsT t0).toArray) rfl rfl (bld70 t0 _)) ?_))
          | (go_at_call 48; refine (HT6.out.sync H2.out HK6.out.2.2 t0 HOT.out).mono ?_; rintro o w7 ⟨v7, D7, rfl, hs7, ht7⟩; have HT7 := Lib.hid ht7; have HP7 := Lib.hid ((H2.out.sync (ts := [t0]) (by simp) hs7 (rsync_ex _ _).choose_spec).pos); clear hs7 ht7)
          | (with_reducible show wpList _ _ _ (Oper.mk (some 75) _ _ _ _ _ :: _) _ _; go_must (refine wpList_wrun rfl _ (Ph.run_buildSlice (vs := #[(0, .int .i64 0), (1, .int .i64 1)]) rfl (by simp; exact ⟨rfl, rfl⟩) (HB33.out _)) ?_))
          | (go_at_call 54; refine (show Calls Try.prog 54 _ _ _ from (by have := HT7.out.fail HP7.out li HLI.out.1 HLI.out.2; rw [HLI2.out] at this; exact this)).mono ?_; rintro o w8 ⟨rfl, ht8⟩; have HT8 := Lib.hid ht8; clear ht8))
        have HAL6 := Lib.hid (HAL.out.relog HSIG.out)
        obtain ⟨F1, F2, hp6⟩ := HT8.out.done
        have HPV6 := Lib.hid hp6
        clear hp6 HCL H1 H2 HS9 HK6 HT0 HOT HLI HB33 HLI2 HT4 HT5 HT6 HT7 HT8 HP7 HSIG HPV HAL hc0
        obtain ⟨D, hD6⟩ : ∃ D6, D6 = ({ D with log := fs } : Dk) := ⟨_, rfl⟩
        rw [← hD6] at HPV6 HAL6
        clear hD6
        have HPV := HPV6
        have HAL := HAL6
        clear HPV6 HAL6
        obtain ⟨m, hm⟩ : ∃ m, m = R.stepS a := ⟨_, rfl⟩
        have HSTEP : Hid (∀ W, PairV w W gd g2 F1 F2 D R → Calls Try.prog 55 #[.pointer (some ⟨gd, 0, none⟩), .pointer (some ⟨g2, 0, none⟩), .agg (cellsA a).toArray] W (StepTo w gd g2 (j + 1) m)) := Lib.hid (fun W hp => by rw [hm]; exact step_any hp HAL.out (by omega) a HAO.out HLT.out.1 HLT.out.2)
        clear hm
        refine Ph.wp_region_all (ph [plA0 gd g2 bb ob n c j a m, plA1 gd g2 bb ob n c j a m]) (fun i _ W => match i with | 0 => PairV w W gd g2 F1 F2 D R | 1 => Good w gd g2 (j + 1) m W | _ => False) (fun W W' => Below W.heap.size W W') (fun _ _ _ => True) [6] [some 78, some 79, some 80, some 81, some 82, some 83, some 84, some 85, some 86, some 87, some 88, some 89, some 90, some 91, some 92, some 93, some 94, some 95, some 96, some 97, some 98, some 99, some 100, some 101, some 102, some 103, some 104, some 105, some 106, some 107, some 108, some 109, some 110, some 111, some 112, some 113, some 114, some 115, some 116, some 117, some 118, some 119, some 120, some 121, some 122, some 123, some 124] mixedP (by kernel_rfl) (by kernel_rfl) (by kernel_rfl) (by kernel_rfl) (ph_keep (plA_keep gd g2 bb ob n c j a m)) (fun kx jx u W W' _ hs => ph_turn (plA_turns gd g2 bb ob n c j a m) kx jx u W W' hs) (HPV.out.grow (Below.refl _ _).drew) ?steps ?fin
        case steps =>
          refine all_lt 47 ?_
          simp only [AllLt]
          refine ⟨?_, ?_, ?_, ?_, ?_, ?_, ?_, ?_, ?_, ?_, ?_, ?_, ?_, ?_, ?_, ?_, ?_, ?_, ?_, ?_, ?_, ?_, ?_, ?_, ?_, ?_, ?_, ?_, ?_, ?_, ?_, ?_, ?_, ?_, ?_, ?_, ?_, ?_, ?_, ?_, ?_, ?_, ?_, ?_, ?_, ?_, ?_, trivial⟩
          · refine step_upto (by kernel_rfl) 0 [] (by kernel_rfl) fun k hk a W hJ hf => ?_
            rcases k with _ | k
            · have h5 : a.tmps[5]? = some (.pointer (some ⟨gd, 0, none⟩)) := hf.old 5 (by kernel_rfl)
              apply op_value
              case ho => rfl
              case hw => exact (wanted_none rfl)
              case hrun => exact run_move (.inl rfl) (eval_tmp h5)
              case hS => exact rfl
              case hk => exact keep_refl _
              case hJ => exact hJ
            · omega
          · refine step_upto (by kernel_rfl) 0 [] (by kernel_rfl) fun k hk a W hJ hf => ?_
            rcases k with _ | k
            · have h7 : a.tmps[7]? = some (.pointer (some ⟨g2, 0, none⟩)) := hf.old 7 (by kernel_rfl)
              apply op_value
              case ho => rfl
              case hw => exact (wanted_none rfl)
              case hrun => exact run_move (.inl rfl) (eval_tmp h7)
              case hS => exact rfl
              case hk => exact keep_refl _
              case hJ => exact hJ
            · omega
          · refine step_upto (by kernel_rfl) 0 [5, 4] (by kernel_rfl) fun k hk a W hJ hf => ?_
            rcases k with _ | k
            · have h1 : a.tmps[1]? = some (.slice (some ⟨bb, ob, none⟩) n c) := hf.old 1 (by kernel_rfl)
              apply op_value
              case ho => rfl
              case hw => exact (wanted_none rfl)
              case hrun => exact run_move (.inl rfl) (eval_tmp h1)
              case hS => exact rfl
              case hk => exact keep_refl _
              case hJ => exact hJ
            · omega
          · refine step_upto (by kernel_rfl) 0 [5, 4] (by kernel_rfl) fun k hk a W hJ hf => ?_
            rcases k with _ | k
            · have h9 : a.tmps[9]? = some (.int .i64 (j : Nat)) := hf.old 9 (by kernel_rfl)
              apply op_value
              case ho => rfl
              case hw => exact (wanted_none rfl)
              case hrun => exact run_move (.inl rfl) (eval_tmp h9)
              case hS => exact rfl
              case hk => exact keep_refl _
              case hJ => exact hJ
            · omega
          · refine step_upto (by kernel_rfl) 0 [5] (by kernel_rfl) fun k hk a W hJ hf => ?_
            rcases k with _ | k
            · obtain ⟨v80, h80, rfl⟩ := hf.get 2 80 (by kernel_rfl) (by kernel_rfl)
              obtain ⟨v81, h81, rfl⟩ := hf.get 3 81 (by kernel_rfl) (by kernel_rfl)
              exact op_value rfl (wanted_none rfl) (run_indexAddr rfl (eval_tmp h80) (eval_tmp h81) (HIX.out W)) rfl (keep_refl _) hJ
            · omega
          · refine step_upto (by kernel_rfl) 0 [] (by kernel_rfl) fun k hk a W hJ hf => ?_
            rcases k with _ | k
            · obtain ⟨v82, h82, rfl⟩ := hf.get 4 82 (by kernel_rfl) (by kernel_rfl)
              apply op_value
              case ho => rfl
              case hw => exact (wanted_none rfl)
              case hrun => exact run_load rfl (eval_tmp h82) (ldA (HRA.out W hJ.below))
              case hS => exact rfl
              case hk => exact keep_refl _
              case hJ => exact hJ
            · omega
          · refine step_eff 0 (by kernel_rfl) (by kernel_rfl) (by kernel_rfl) fun a W hJ hf => ?_
            obtain ⟨v78, h78, rfl⟩ := hf.get 0 78 (by kernel_rfl) (by kernel_rfl)
            obtain ⟨v79, h79, rfl⟩ := hf.get 1 79 (by kernel_rfl) (by kernel_rfl)
            obtain ⟨v83, h83, rfl⟩ := hf.get 5 83 (by kernel_rfl) (by kernel_rfl)
            refine op_call rfl (wanted_none rfl) (run_call rfl (args_three (eval_tmp h78) (eval_tmp h79) (eval_tmp h83)) (cf55 _ _)) ?_
            refine (HSTEP.out W hJ).mono ?_
            rintro e W' ⟨rfl, hs⟩
            exact ⟨_, rfl, rfl, trivial, hs⟩
          · refine step_pure (by kernel_rfl) fun k a W hJ hf => ?_
            rcases k with _ | k
            · obtain ⟨_, _, hno⟩ := hf.dep 6 (by kernel_rfl)
              exact hno.elim
            rcases k with _ | k
            · obtain ⟨v84, h84, rfl⟩ := hf.get 6 84 (by kernel_rfl) (by kernel_rfl)
              apply op_value
              case ho => rfl
              case hw => exact (wanted_none rfl)
              case hrun => exact run_un rfl (eval_tmp h84) (by rfl)
              case hS => exact rfl
              case hk => exact keep_refl _
              case hJ => exact hJ
            · exact hJ.elim
          · refine step_pure (by kernel_rfl) fun k a W hJ hf => ?_
            rcases k with _ | k
            · obtain ⟨_, _, hno⟩ := hf.dep 7 (by kernel_rfl)
              exact hno.elim
            rcases k with _ | k
            · obtain ⟨v85, h85, rfl⟩ := hf.get 7 85 (by kernel_rfl) (by kernel_rfl)
              apply op_value
              case ho => rfl
              case hw => exact (wanted_none rfl)
              case hrun => exact run_move (.inl rfl) (eval_tmp h85)
              case hS => exact rfl
              case hk => exact keep_refl _
              case hJ => exact hJ
            · exact hJ.elim
          · refine step_pure (by kernel_rfl) fun k a W hJ hf => ?_
            rcases k with _ | k
            · obtain ⟨_, _, hno⟩ := hf.dep 8 (by kernel_rfl)
              exact hno.elim
            rcases k with _ | k
            · obtain ⟨v86, h86, rfl⟩ := hf.get 8 86 (by kernel_rfl) (by kernel_rfl)
              have h5 : a.tmps[5]? = some (.pointer (some ⟨gd, 0, none⟩)) := hf.old 5 (by kernel_rfl)
              apply op_value
              case ho => rfl
              case hw => exact (wanted_some rfl (by kernel_rfl) h86)
              case hrun => exact run_move (.inl rfl) (eval_tmp h5)
              case hS => exact rfl
              case hk => exact keep_refl _
              case hJ => exact hJ
            · exact hJ.elim
          · refine step_pure (by kernel_rfl) fun k a W hJ hf => ?_
            rcases k with _ | k
            · obtain ⟨_, _, hno⟩ := hf.dep 9 (by kernel_rfl)
              exact hno.elim
            rcases k with _ | k
            · obtain ⟨v86, h86, rfl⟩ := hf.get 8 86 (by kernel_rfl) (by kernel_rfl)
              obtain ⟨v87, h87, rfl⟩ := hf.get 9 87 (by kernel_rfl) (by kernel_rfl)
              refine op_call rfl (wanted_some rfl (by kernel_rfl) h86) (run_call rfl (args_one (eval_tmp h87)) (cf56 _ _)) ?_
              refine (Good.dsafe hJ).mono ?_
              rintro e W' ⟨v, rfl, hr, hb, hg⟩
              exact ⟨_, rfl, hr, hb, hg⟩
            · exact hJ.elim
          · refine step_pure (by kernel_rfl) fun k a W hJ hf => ?_
            rcases k with _ | k
            · obtain ⟨_, _, hno⟩ := hf.dep 8 (by kernel_rfl)
              exact hno.elim
            rcases k with _ | k
            · obtain ⟨v86, h86, rfl⟩ := hf.get 8 86 (by kernel_rfl) (by kernel_rfl)
              have h7 : a.tmps[7]? = some (.pointer (some ⟨g2, 0, none⟩)) := hf.old 7 (by kernel_rfl)
              apply op_value
              case ho => rfl
              case hw => exact (wanted_some rfl (by kernel_rfl) h86)
              case hrun => exact run_move (.inl rfl) (eval_tmp h7)
              case hS => exact rfl
              case hk => exact keep_refl _
              case hJ => exact hJ
            · exact hJ.elim
          · refine step_pure (by kernel_rfl) fun k a W hJ hf => ?_
            rcases k with _ | k
            · obtain ⟨_, _, hno⟩ := hf.dep 11 (by kernel_rfl)
              exact hno.elim
            rcases k with _ | k
            · obtain ⟨v86, h86, rfl⟩ := hf.get 8 86 (by kernel_rfl) (by kernel_rfl)
              obtain ⟨v89, h89, rfl⟩ := hf.get 11 89 (by kernel_rfl) (by kernel_rfl)
              apply op_value
              case ho => rfl
              case hw => exact (wanted_some rfl (by kernel_rfl) h86)
              case hrun => exact run_nilCheck rfl (eval_tmp h89)
              case hS => exact rfl
              case hk => exact keep_refl _
              case hJ => exact hJ
            · exact hJ.elim
          · refine step_pure (by kernel_rfl) fun k a W hJ hf => ?_
            rcases k with _ | k
            · obtain ⟨_, _, hno⟩ := hf.dep 12 (by kernel_rfl)
              exact hno.elim
            rcases k with _ | k
            · obtain ⟨v86, h86, rfl⟩ := hf.get 8 86 (by kernel_rfl) (by kernel_rfl)
              obtain ⟨v90, h90, rfl⟩ := hf.get 12 90 (by kernel_rfl) (by kernel_rfl)
              apply op_value
              case ho => rfl
              case hw => exact (wanted_some rfl (by kernel_rfl) h86)
              case hrun => exact run_fieldAddr rfl (eval_tmp h90) (V := (.pointer (some ⟨g2, 0, none⟩))) (by go_simp)
              case hS => exact rfl
              case hk => exact keep_refl _
              case hJ => exact hJ
            · exact hJ.elim
          · refine step_pure (by kernel_rfl) fun k a W hJ hf => ?_
            rcases k with _ | k
            · obtain ⟨_, _, hno⟩ := hf.dep 13 (by kernel_rfl)
              exact hno.elim
            rcases k with _ | k
            · obtain ⟨v86, h86, rfl⟩ := hf.get 8 86 (by kernel_rfl) (by kernel_rfl)
              obtain ⟨v91, h91, rfl⟩ := hf.get 13 91 (by kernel_rfl) (by kernel_rfl)
              obtain ⟨v, hrun, hr⟩ := Good.rsafe hJ
              exact op_value rfl (wanted_some rfl (by kernel_rfl) h86) (run_load rfl (eval_tmp h91) hrun) hr (keep_refl _) hJ
            · exact hJ.elim
          · refine step_pure (by kernel_rfl) fun k a W hJ hf => ?_
            rcases k with _ | k
            · obtain ⟨_, _, hno⟩ := hf.dep 10 (by kernel_rfl)
              exact hno.elim
            rcases k with _ | k
            · obtain ⟨v86, h86, rfl⟩ := hf.get 8 86 (by kernel_rfl) (by kernel_rfl)
              obtain ⟨v88, h88, A88, c88, rfl, r88⟩ := hf.get 10 88 (by kernel_rfl) (by kernel_rfl)
              obtain ⟨v92, h92, A92, c92, rfl, r92⟩ := hf.get 14 92 (by kernel_rfl) (by kernel_rfl)
              refine op_call rfl (wanted_some rfl (by kernel_rfl) h86) (run_call rfl (args_two (eval_tmp h88) (eval_tmp h92)) (cf34 _ _)) ?_
              refine (same_any A88 A92 c88 c92 m.safe W (Good.len hJ HK.out).1 r88 r92).mono ?_
              rintro e W' ⟨rfl, d, rfl⟩
              exact ⟨_, rfl, rfl, drew_below W d, Good.grow hJ (drew_below W d)⟩
            · exact hJ.elim
          · refine step_pure (by kernel_rfl) fun k a W hJ hf => ?_
            rcases k with _ | k
            · obtain ⟨_, _, hno⟩ := hf.dep 15 (by kernel_rfl)
              exact hno.elim
            rcases k with _ | k
            · obtain ⟨v86, h86, rfl⟩ := hf.get 8 86 (by kernel_rfl) (by kernel_rfl)
              obtain ⟨v93, h93, rfl⟩ := hf.get 15 93 (by kernel_rfl) (by kernel_rfl)
              apply op_value
              case ho => rfl
              case hw => exact (wanted_some rfl (by kernel_rfl) h86)
              case hrun => exact run_un rfl (eval_tmp h93) (by rfl)
              case hS => exact rfl
              case hk => exact keep_refl _
              case hJ => exact hJ
            · exact hJ.elim
          · refine step_pure (by kernel_rfl) fun k a W hJ hf => ?_
            rcases k with _ | k
            · obtain ⟨_, _, hno⟩ := hf.dep 8 (by kernel_rfl)
              exact hno.elim
            rcases k with _ | k
            · obtain ⟨v86, h86, rfl⟩ := hf.get 8 86 (by kernel_rfl) (by kernel_rfl)
              obtain ⟨v94, h94, rfl⟩ := hf.get 16 94 (by kernel_rfl) (by kernel_rfl)
              apply op_value
              case ho => rfl
              case hw => exact (wanted_none rfl)
              case hrun => exact run_pick_f rfl (eval_tmp h86) (eval_tmp h94)
              case hS => exact rfl
              case hk => exact keep_refl _
              case hJ => exact hJ
            · exact hJ.elim
          · refine step_pure (by kernel_rfl) fun k a W hJ hf => ?_
            rcases k with _ | k
            · obtain ⟨_, _, hno⟩ := hf.dep 17 (by kernel_rfl)
              exact hno.elim
            rcases k with _ | k
            · obtain ⟨v95, h95, rfl⟩ := hf.get 17 95 (by kernel_rfl) (by kernel_rfl)
              apply op_value
              case ho => rfl
              case hw => exact (wanted_none rfl)
              case hrun => exact run_move (.inl rfl) (eval_tmp h95)
              case hS => exact rfl
              case hk => exact keep_refl _
              case hJ => exact hJ
            · exact hJ.elim
          · refine step_pure (by kernel_rfl) fun k a W hJ hf => ?_
            rcases k with _ | k
            · obtain ⟨_, _, hno⟩ := hf.dep 18 (by kernel_rfl)
              exact hno.elim
            rcases k with _ | k
            · obtain ⟨v96, h96, rfl⟩ := hf.get 18 96 (by kernel_rfl) (by kernel_rfl)
              have h5 : a.tmps[5]? = some (.pointer (some ⟨gd, 0, none⟩)) := hf.old 5 (by kernel_rfl)
              apply op_value
              case ho => rfl
              case hw => exact (wanted_some rfl (by kernel_rfl) h96)
              case hrun => exact run_move (.inl rfl) (eval_tmp h5)
              case hS => exact rfl
              case hk => exact keep_refl _
              case hJ => exact hJ
            · exact hJ.elim
          · refine step_pure (by kernel_rfl) fun k a W hJ hf => ?_
            rcases k with _ | k
            · obtain ⟨_, _, hno⟩ := hf.dep 19 (by kernel_rfl)
              exact hno.elim
            rcases k with _ | k
            · obtain ⟨v96, h96, rfl⟩ := hf.get 18 96 (by kernel_rfl) (by kernel_rfl)
              obtain ⟨v97, h97, rfl⟩ := hf.get 19 97 (by kernel_rfl) (by kernel_rfl)
              refine op_call rfl (wanted_some rfl (by kernel_rfl) h96) (run_call rfl (args_one (eval_tmp h97)) (cf47 _ _)) ?_
              refine (Good.dwait hJ HK.out).mono ?_
              rintro e W' ⟨v, rfl, hr, hb, hg⟩
              exact ⟨_, rfl, hr, hb, hg⟩
            · exact hJ.elim
          · refine step_pure (by kernel_rfl) fun k a W hJ hf => ?_
            rcases k with _ | k
            · obtain ⟨_, _, hno⟩ := hf.dep 18 (by kernel_rfl)
              exact hno.elim
            rcases k with _ | k
            · obtain ⟨v96, h96, rfl⟩ := hf.get 18 96 (by kernel_rfl) (by kernel_rfl)
              have h7 : a.tmps[7]? = some (.pointer (some ⟨g2, 0, none⟩)) := hf.old 7 (by kernel_rfl)
              apply op_value
              case ho => rfl
              case hw => exact (wanted_some rfl (by kernel_rfl) h96)
              case hrun => exact run_move (.inl rfl) (eval_tmp h7)
              case hS => exact rfl
              case hk => exact keep_refl _
              case hJ => exact hJ
            · exact hJ.elim
          · refine step_pure (by kernel_rfl) fun k a W hJ hf => ?_
            rcases k with _ | k
            · obtain ⟨_, _, hno⟩ := hf.dep 21 (by kernel_rfl)
              exact hno.elim
            rcases k with _ | k
            · obtain ⟨v96, h96, rfl⟩ := hf.get 18 96 (by kernel_rfl) (by kernel_rfl)
              obtain ⟨v99, h99, rfl⟩ := hf.get 21 99 (by kernel_rfl) (by kernel_rfl)
              apply op_value
              case ho => rfl
              case hw => exact (wanted_some rfl (by kernel_rfl) h96)
              case hrun => exact run_nilCheck rfl (eval_tmp h99)
              case hS => exact rfl
              case hk => exact keep_refl _
              case hJ => exact hJ
            · exact hJ.elim
          · refine step_pure (by kernel_rfl) fun k a W hJ hf => ?_
            rcases k with _ | k
            · obtain ⟨_, _, hno⟩ := hf.dep 22 (by kernel_rfl)
              exact hno.elim
            rcases k with _ | k
            · obtain ⟨v96, h96, rfl⟩ := hf.get 18 96 (by kernel_rfl) (by kernel_rfl)
              obtain ⟨v100, h100, rfl⟩ := hf.get 22 100 (by kernel_rfl) (by kernel_rfl)
              apply op_value
              case ho => rfl
              case hw => exact (wanted_some rfl (by kernel_rfl) h96)
              case hrun => exact run_fieldAddr rfl (eval_tmp h100) (V := (.pointer (some ⟨g2, 1, none⟩))) (by go_simp)
              case hS => exact rfl
              case hk => exact keep_refl _
              case hJ => exact hJ
            · exact hJ.elim
          · refine step_pure (by kernel_rfl) fun k a W hJ hf => ?_
            rcases k with _ | k
            · obtain ⟨_, _, hno⟩ := hf.dep 23 (by kernel_rfl)
              exact hno.elim
            rcases k with _ | k
            · obtain ⟨v96, h96, rfl⟩ := hf.get 18 96 (by kernel_rfl) (by kernel_rfl)
              obtain ⟨v101, h101, rfl⟩ := hf.get 23 101 (by kernel_rfl) (by kernel_rfl)
              obtain ⟨v, hrun, hr⟩ := Good.rwait hJ
              exact op_value rfl (wanted_some rfl (by kernel_rfl) h96) (run_load rfl (eval_tmp h101) hrun) hr (keep_refl _) hJ
            · exact hJ.elim
          · refine step_pure (by kernel_rfl) fun k a W hJ hf => ?_
            rcases k with _ | k
            · obtain ⟨_, _, hno⟩ := hf.dep 20 (by kernel_rfl)
              exact hno.elim
            rcases k with _ | k
            · obtain ⟨v96, h96, rfl⟩ := hf.get 18 96 (by kernel_rfl) (by kernel_rfl)
              obtain ⟨v98, h98, A98, c98, rfl, r98⟩ := hf.get 20 98 (by kernel_rfl) (by kernel_rfl)
              obtain ⟨v102, h102, A102, c102, rfl, r102⟩ := hf.get 24 102 (by kernel_rfl) (by kernel_rfl)
              refine op_call rfl (wanted_some rfl (by kernel_rfl) h96) (run_call rfl (args_two (eval_tmp h98) (eval_tmp h102)) (cf57 _ _)) ?_
              refine (writes_same A98 A102 c98 c102 m.wait W (Good.len hJ HK.out).2.1 r98 r102).mono ?_
              rintro e W' ⟨rfl, d, rfl⟩
              exact ⟨_, rfl, rfl, drew_below W d, Good.grow hJ (drew_below W d)⟩
            · exact hJ.elim
          · refine step_pure (by kernel_rfl) fun k a W hJ hf => ?_
            rcases k with _ | k
            · obtain ⟨_, _, hno⟩ := hf.dep 25 (by kernel_rfl)
              exact hno.elim
            rcases k with _ | k
            · obtain ⟨v96, h96, rfl⟩ := hf.get 18 96 (by kernel_rfl) (by kernel_rfl)
              obtain ⟨v103, h103, rfl⟩ := hf.get 25 103 (by kernel_rfl) (by kernel_rfl)
              apply op_value
              case ho => rfl
              case hw => exact (wanted_some rfl (by kernel_rfl) h96)
              case hrun => exact run_un rfl (eval_tmp h103) (by rfl)
              case hS => exact rfl
              case hk => exact keep_refl _
              case hJ => exact hJ
            · exact hJ.elim
          · refine step_pure (by kernel_rfl) fun k a W hJ hf => ?_
            rcases k with _ | k
            · obtain ⟨_, _, hno⟩ := hf.dep 18 (by kernel_rfl)
              exact hno.elim
            rcases k with _ | k
            · obtain ⟨v96, h96, rfl⟩ := hf.get 18 96 (by kernel_rfl) (by kernel_rfl)
              obtain ⟨v104, h104, rfl⟩ := hf.get 26 104 (by kernel_rfl) (by kernel_rfl)
              apply op_value
              case ho => rfl
              case hw => exact (wanted_none rfl)
              case hrun => exact run_pick_f rfl (eval_tmp h96) (eval_tmp h104)
              case hS => exact rfl
              case hk => exact keep_refl _
              case hJ => exact hJ
            · exact hJ.elim
          · refine step_pure (by kernel_rfl) fun k a W hJ hf => ?_
            rcases k with _ | k
            · obtain ⟨_, _, hno⟩ := hf.dep 27 (by kernel_rfl)
              exact hno.elim
            rcases k with _ | k
            · obtain ⟨v105, h105, rfl⟩ := hf.get 27 105 (by kernel_rfl) (by kernel_rfl)
              apply op_value
              case ho => rfl
              case hw => exact (wanted_none rfl)
              case hrun => exact run_move (.inl rfl) (eval_tmp h105)
              case hS => exact rfl
              case hk => exact keep_refl _
              case hJ => exact hJ
            · exact hJ.elim
          · refine step_pure (by kernel_rfl) fun k a W hJ hf => ?_
            rcases k with _ | k
            · obtain ⟨_, _, hno⟩ := hf.dep 28 (by kernel_rfl)
              exact hno.elim
            rcases k with _ | k
            · obtain ⟨v106, h106, rfl⟩ := hf.get 28 106 (by kernel_rfl) (by kernel_rfl)
              have h5 : a.tmps[5]? = some (.pointer (some ⟨gd, 0, none⟩)) := hf.old 5 (by kernel_rfl)
              apply op_value
              case ho => rfl
              case hw => exact (wanted_some rfl (by kernel_rfl) h106)
              case hrun => exact run_move (.inl rfl) (eval_tmp h5)
              case hS => exact rfl
              case hk => exact keep_refl _
              case hJ => exact hJ
            · exact hJ.elim
          · refine step_pure (by kernel_rfl) fun k a W hJ hf => ?_
            rcases k with _ | k
            · obtain ⟨_, _, hno⟩ := hf.dep 29 (by kernel_rfl)
              exact hno.elim
            rcases k with _ | k
            · obtain ⟨v106, h106, rfl⟩ := hf.get 28 106 (by kernel_rfl) (by kernel_rfl)
              obtain ⟨v107, h107, rfl⟩ := hf.get 29 107 (by kernel_rfl) (by kernel_rfl)
              refine op_call rfl (wanted_some rfl (by kernel_rfl) h106) (run_call rfl (args_one (eval_tmp h107)) (cf59 _ _)) ?_
              refine (Good.dlog hJ HK.out).mono ?_
              rintro e W' ⟨v, rfl, hr, hb, hg⟩
              exact ⟨_, rfl, hr, hb, hg⟩
            · exact hJ.elim
          · refine step_pure (by kernel_rfl) fun k a W hJ hf => ?_
            rcases k with _ | k
            · obtain ⟨_, _, hno⟩ := hf.dep 28 (by kernel_rfl)
              exact hno.elim
            rcases k with _ | k
            · obtain ⟨v106, h106, rfl⟩ := hf.get 28 106 (by kernel_rfl) (by kernel_rfl)
              have h7 : a.tmps[7]? = some (.pointer (some ⟨g2, 0, none⟩)) := hf.old 7 (by kernel_rfl)
              apply op_value
              case ho => rfl
              case hw => exact (wanted_some rfl (by kernel_rfl) h106)
              case hrun => exact run_move (.inl rfl) (eval_tmp h7)
              case hS => exact rfl
              case hk => exact keep_refl _
              case hJ => exact hJ
            · exact hJ.elim
          · refine step_pure (by kernel_rfl) fun k a W hJ hf => ?_
            rcases k with _ | k
            · obtain ⟨_, _, hno⟩ := hf.dep 31 (by kernel_rfl)
              exact hno.elim
            rcases k with _ | k
            · obtain ⟨v106, h106, rfl⟩ := hf.get 28 106 (by kernel_rfl) (by kernel_rfl)
              obtain ⟨v109, h109, rfl⟩ := hf.get 31 109 (by kernel_rfl) (by kernel_rfl)
              apply op_value
              case ho => rfl
              case hw => exact (wanted_some rfl (by kernel_rfl) h106)
              case hrun => exact run_nilCheck rfl (eval_tmp h109)
              case hS => exact rfl
              case hk => exact keep_refl _
              case hJ => exact hJ
            · exact hJ.elim
          · refine step_pure (by kernel_rfl) fun k a W hJ hf => ?_
            rcases k with _ | k
            · obtain ⟨_, _, hno⟩ := hf.dep 32 (by kernel_rfl)
              exact hno.elim
            rcases k with _ | k
            · obtain ⟨v106, h106, rfl⟩ := hf.get 28 106 (by kernel_rfl) (by kernel_rfl)
              obtain ⟨v110, h110, rfl⟩ := hf.get 32 110 (by kernel_rfl) (by kernel_rfl)
              apply op_value
              case ho => rfl
              case hw => exact (wanted_some rfl (by kernel_rfl) h106)
              case hrun => exact run_fieldAddr rfl (eval_tmp h110) (V := (.pointer (some ⟨g2, 3, none⟩))) (by go_simp)
              case hS => exact rfl
              case hk => exact keep_refl _
              case hJ => exact hJ
            · exact hJ.elim
          · refine step_pure (by kernel_rfl) fun k a W hJ hf => ?_
            rcases k with _ | k
            · obtain ⟨_, _, hno⟩ := hf.dep 33 (by kernel_rfl)
              exact hno.elim
            rcases k with _ | k
            · obtain ⟨v106, h106, rfl⟩ := hf.get 28 106 (by kernel_rfl) (by kernel_rfl)
              obtain ⟨v111, h111, rfl⟩ := hf.get 33 111 (by kernel_rfl) (by kernel_rfl)
              obtain ⟨v, hrun, hr⟩ := Good.rlog hJ
              exact op_value rfl (wanted_some rfl (by kernel_rfl) h106) (run_load rfl (eval_tmp h111) hrun) hr (keep_refl _) hJ
            · exact hJ.elim
          · refine step_pure (by kernel_rfl) fun k a W hJ hf => ?_
            rcases k with _ | k
            · obtain ⟨_, _, hno⟩ := hf.dep 30 (by kernel_rfl)
              exact hno.elim
            rcases k with _ | k
            · obtain ⟨v106, h106, rfl⟩ := hf.get 28 106 (by kernel_rfl) (by kernel_rfl)
              obtain ⟨v108, h108, A108, c108, es108, rfl, g108, r108, t108⟩ := hf.get 30 108 (by kernel_rfl) (by kernel_rfl)
              obtain ⟨v112, h112, A112, c112, es112, rfl, g112, r112, t112⟩ := hf.get 34 112 (by kernel_rfl) (by kernel_rfl)
              refine op_call rfl (wanted_some rfl (by kernel_rfl) h106) (run_call rfl (args_two (eval_tmp h108) (eval_tmp h112)) (cf58 _ _)) ?_
              obtain ⟨_, _, hl3, hl4⟩ := Good.len hJ HK.out
              refine (events_same A108 A112 c108 c112 es108 es112 W (by rw [← List.length_map (f := sigE), g108]; exact hl3) (by rw [g108, g112]) r108 r112 (fun e he => ⟨hl4 (sigE e) (by rw [← g108]; exact List.mem_map.2 ⟨e, he, rfl⟩), t108 e he⟩) t112).mono ?_
              rintro e W' ⟨rfl, d, rfl⟩
              exact ⟨_, rfl, rfl, drew_below W d, Good.grow hJ (drew_below W d)⟩
            · exact hJ.elim
          · refine step_pure (by kernel_rfl) fun k a W hJ hf => ?_
            rcases k with _ | k
            · obtain ⟨_, _, hno⟩ := hf.dep 35 (by kernel_rfl)
              exact hno.elim
            rcases k with _ | k
            · obtain ⟨v106, h106, rfl⟩ := hf.get 28 106 (by kernel_rfl) (by kernel_rfl)
              obtain ⟨v113, h113, rfl⟩ := hf.get 35 113 (by kernel_rfl) (by kernel_rfl)
              apply op_value
              case ho => rfl
              case hw => exact (wanted_some rfl (by kernel_rfl) h106)
              case hrun => exact run_un rfl (eval_tmp h113) (by rfl)
              case hS => exact rfl
              case hk => exact keep_refl _
              case hJ => exact hJ
            · exact hJ.elim
          · refine step_pure (by kernel_rfl) fun k a W hJ hf => ?_
            rcases k with _ | k
            · obtain ⟨_, _, hno⟩ := hf.dep 28 (by kernel_rfl)
              exact hno.elim
            rcases k with _ | k
            · obtain ⟨v106, h106, rfl⟩ := hf.get 28 106 (by kernel_rfl) (by kernel_rfl)
              obtain ⟨v114, h114, rfl⟩ := hf.get 36 114 (by kernel_rfl) (by kernel_rfl)
              apply op_value
              case ho => rfl
              case hw => exact (wanted_none rfl)
              case hrun => exact run_pick_f rfl (eval_tmp h106) (eval_tmp h114)
              case hS => exact rfl
              case hk => exact keep_refl _
              case hJ => exact hJ
            · exact hJ.elim
          · refine step_pure (by kernel_rfl) fun k a W hJ hf => ?_
            rcases k with _ | k
            · obtain ⟨_, _, hno⟩ := hf.dep 37 (by kernel_rfl)
              exact hno.elim
            rcases k with _ | k
            · obtain ⟨v115, h115, rfl⟩ := hf.get 37 115 (by kernel_rfl) (by kernel_rfl)
              apply op_value
              case ho => rfl
              case hw => exact (wanted_none rfl)
              case hrun => exact run_move (.inl rfl) (eval_tmp h115)
              case hS => exact rfl
              case hk => exact keep_refl _
              case hJ => exact hJ
            · exact hJ.elim
          · refine step_pure (by kernel_rfl) fun k a W hJ hf => ?_
            rcases k with _ | k
            · obtain ⟨_, _, hno⟩ := hf.dep 38 (by kernel_rfl)
              exact hno.elim
            rcases k with _ | k
            · obtain ⟨v116, h116, rfl⟩ := hf.get 38 116 (by kernel_rfl) (by kernel_rfl)
              have h5 : a.tmps[5]? = some (.pointer (some ⟨gd, 0, none⟩)) := hf.old 5 (by kernel_rfl)
              apply op_value
              case ho => rfl
              case hw => exact (wanted_some rfl (by kernel_rfl) h116)
              case hrun => exact run_move (.inl rfl) (eval_tmp h5)
              case hS => exact rfl
              case hk => exact keep_refl _
              case hJ => exact hJ
            · exact hJ.elim
          · refine step_pure (by kernel_rfl) fun k a W hJ hf => ?_
            rcases k with _ | k
            · obtain ⟨_, _, hno⟩ := hf.dep 39 (by kernel_rfl)
              exact hno.elim
            rcases k with _ | k
            · obtain ⟨v116, h116, rfl⟩ := hf.get 38 116 (by kernel_rfl) (by kernel_rfl)
              obtain ⟨v117, h117, rfl⟩ := hf.get 39 117 (by kernel_rfl) (by kernel_rfl)
              refine op_call rfl (wanted_some rfl (by kernel_rfl) h116) (run_call rfl (args_one (eval_tmp h117)) (cf60 _ _)) ?_
              refine (Good.depoch hJ).mono ?_
              rintro e W' ⟨rfl, rfl⟩
              exact ⟨_, rfl, rfl, keep_refl _, hJ⟩
            · exact hJ.elim
          · refine step_pure (by kernel_rfl) fun k a W hJ hf => ?_
            rcases k with _ | k
            · obtain ⟨_, _, hno⟩ := hf.dep 38 (by kernel_rfl)
              exact hno.elim
            rcases k with _ | k
            · obtain ⟨v116, h116, rfl⟩ := hf.get 38 116 (by kernel_rfl) (by kernel_rfl)
              have h7 : a.tmps[7]? = some (.pointer (some ⟨g2, 0, none⟩)) := hf.old 7 (by kernel_rfl)
              apply op_value
              case ho => rfl
              case hw => exact (wanted_some rfl (by kernel_rfl) h116)
              case hrun => exact run_move (.inl rfl) (eval_tmp h7)
              case hS => exact rfl
              case hk => exact keep_refl _
              case hJ => exact hJ
            · exact hJ.elim
          · refine step_pure (by kernel_rfl) fun k a W hJ hf => ?_
            rcases k with _ | k
            · obtain ⟨_, _, hno⟩ := hf.dep 41 (by kernel_rfl)
              exact hno.elim
            rcases k with _ | k
            · obtain ⟨v116, h116, rfl⟩ := hf.get 38 116 (by kernel_rfl) (by kernel_rfl)
              obtain ⟨v119, h119, rfl⟩ := hf.get 41 119 (by kernel_rfl) (by kernel_rfl)
              apply op_value
              case ho => rfl
              case hw => exact (wanted_some rfl (by kernel_rfl) h116)
              case hrun => exact run_nilCheck rfl (eval_tmp h119)
              case hS => exact rfl
              case hk => exact keep_refl _
              case hJ => exact hJ
            · exact hJ.elim
          · refine step_pure (by kernel_rfl) fun k a W hJ hf => ?_
            rcases k with _ | k
            · obtain ⟨_, _, hno⟩ := hf.dep 42 (by kernel_rfl)
              exact hno.elim
            rcases k with _ | k
            · obtain ⟨v116, h116, rfl⟩ := hf.get 38 116 (by kernel_rfl) (by kernel_rfl)
              obtain ⟨v120, h120, rfl⟩ := hf.get 42 120 (by kernel_rfl) (by kernel_rfl)
              apply op_value
              case ho => rfl
              case hw => exact (wanted_some rfl (by kernel_rfl) h116)
              case hrun => exact run_fieldAddr rfl (eval_tmp h120) (V := (.pointer (some ⟨g2, 2, none⟩))) (by go_simp)
              case hS => exact rfl
              case hk => exact keep_refl _
              case hJ => exact hJ
            · exact hJ.elim
          · refine step_pure (by kernel_rfl) fun k a W hJ hf => ?_
            rcases k with _ | k
            · obtain ⟨_, _, hno⟩ := hf.dep 43 (by kernel_rfl)
              exact hno.elim
            rcases k with _ | k
            · obtain ⟨v116, h116, rfl⟩ := hf.get 38 116 (by kernel_rfl) (by kernel_rfl)
              obtain ⟨v121, h121, rfl⟩ := hf.get 43 121 (by kernel_rfl) (by kernel_rfl)
              apply op_value
              case ho => rfl
              case hw => exact (wanted_some rfl (by kernel_rfl) h116)
              case hrun => exact run_load rfl (eval_tmp h121) (Good.repoch hJ)
              case hS => exact rfl
              case hk => exact keep_refl _
              case hJ => exact hJ
            · exact hJ.elim
          · refine step_pure (by kernel_rfl) fun k a W hJ hf => ?_
            rcases k with _ | k
            · obtain ⟨_, _, hno⟩ := hf.dep 40 (by kernel_rfl)
              exact hno.elim
            rcases k with _ | k
            · obtain ⟨v116, h116, rfl⟩ := hf.get 38 116 (by kernel_rfl) (by kernel_rfl)
              obtain ⟨v118, h118, rfl⟩ := hf.get 40 118 (by kernel_rfl) (by kernel_rfl)
              obtain ⟨v122, h122, rfl⟩ := hf.get 44 122 (by kernel_rfl) (by kernel_rfl)
              apply op_value
              case ho => rfl
              case hw => exact (wanted_some rfl (by kernel_rfl) h116)
              case hrun => exact run_bin rfl (eval_tmp h118) (eval_tmp h122) rfl (neqI W _)
              case hS => exact rfl
              case hk => exact keep_refl _
              case hJ => exact hJ
            · exact hJ.elim
          · refine step_pure (by kernel_rfl) fun k a W hJ hf => ?_
            rcases k with _ | k
            · obtain ⟨_, _, hno⟩ := hf.dep 38 (by kernel_rfl)
              exact hno.elim
            rcases k with _ | k
            · obtain ⟨v116, h116, rfl⟩ := hf.get 38 116 (by kernel_rfl) (by kernel_rfl)
              obtain ⟨v123, h123, rfl⟩ := hf.get 45 123 (by kernel_rfl) (by kernel_rfl)
              apply op_value
              case ho => rfl
              case hw => exact (wanted_none rfl)
              case hrun => exact run_pick_f rfl (eval_tmp h116) (eval_tmp h123)
              case hS => exact rfl
              case hk => exact keep_refl _
              case hJ => exact hJ
            · exact hJ.elim
        case fin =>
          intro vs w9 hl hJ hSS
          have hl0 : vs.length = 47 := hl
          have h46 := fun v hv => hSS 46 v hv
          obtain ⟨y0, r0, rfl, hl1⟩ := cons_of hl0
          obtain ⟨y1, r1, rfl, hl2⟩ := cons_of hl1
          obtain ⟨y2, r2, rfl, hl3⟩ := cons_of hl2
          obtain ⟨y3, r3, rfl, hl4⟩ := cons_of hl3
          obtain ⟨y4, r4, rfl, hl5⟩ := cons_of hl4
          obtain ⟨y5, r5, rfl, hl6⟩ := cons_of hl5
          obtain ⟨y6, r6, rfl, hl7⟩ := cons_of hl6
          obtain ⟨y7, r7, rfl, hl8⟩ := cons_of hl7
          obtain ⟨y8, r8, rfl, hl9⟩ := cons_of hl8
          obtain ⟨y9, r9, rfl, hl10⟩ := cons_of hl9
          obtain ⟨y10, r10, rfl, hl11⟩ := cons_of hl10
          obtain ⟨y11, r11, rfl, hl12⟩ := cons_of hl11
          obtain ⟨y12, r12, rfl, hl13⟩ := cons_of hl12
          obtain ⟨y13, r13, rfl, hl14⟩ := cons_of hl13
          obtain ⟨y14, r14, rfl, hl15⟩ := cons_of hl14
          obtain ⟨y15, r15, rfl, hl16⟩ := cons_of hl15
          obtain ⟨y16, r16, rfl, hl17⟩ := cons_of hl16
          obtain ⟨y17, r17, rfl, hl18⟩ := cons_of hl17
          obtain ⟨y18, r18, rfl, hl19⟩ := cons_of hl18
          obtain ⟨y19, r19, rfl, hl20⟩ := cons_of hl19
          obtain ⟨y20, r20, rfl, hl21⟩ := cons_of hl20
          obtain ⟨y21, r21, rfl, hl22⟩ := cons_of hl21
          obtain ⟨y22, r22, rfl, hl23⟩ := cons_of hl22
          obtain ⟨y23, r23, rfl, hl24⟩ := cons_of hl23
          obtain ⟨y24, r24, rfl, hl25⟩ := cons_of hl24
          obtain ⟨y25, r25, rfl, hl26⟩ := cons_of hl25
          obtain ⟨y26, r26, rfl, hl27⟩ := cons_of hl26
          obtain ⟨y27, r27, rfl, hl28⟩ := cons_of hl27
          obtain ⟨y28, r28, rfl, hl29⟩ := cons_of hl28
          obtain ⟨y29, r29, rfl, hl30⟩ := cons_of hl29
          obtain ⟨y30, r30, rfl, hl31⟩ := cons_of hl30
          obtain ⟨y31, r31, rfl, hl32⟩ := cons_of hl31
          obtain ⟨y32, r32, rfl, hl33⟩ := cons_of hl32
          obtain ⟨y33, r33, rfl, hl34⟩ := cons_of hl33
          obtain ⟨y34, r34, rfl, hl35⟩ := cons_of hl34
          obtain ⟨y35, r35, rfl, hl36⟩ := cons_of hl35
          obtain ⟨y36, r36, rfl, hl37⟩ := cons_of hl36
          obtain ⟨y37, r37, rfl, hl38⟩ := cons_of hl37
          obtain ⟨y38, r38, rfl, hl39⟩ := cons_of hl38
          obtain ⟨y39, r39, rfl, hl40⟩ := cons_of hl39
          obtain ⟨y40, r40, rfl, hl41⟩ := cons_of hl40
          obtain ⟨y41, r41, rfl, hl42⟩ := cons_of hl41
          obtain ⟨y42, r42, rfl, hl43⟩ := cons_of hl42
          obtain ⟨y43, r43, rfl, hl44⟩ := cons_of hl43
          obtain ⟨y44, r44, rfl, hl45⟩ := cons_of hl44
          obtain ⟨y45, r45, rfl, hl46⟩ := cons_of hl45
          obtain ⟨y46, r46, rfl, hl47⟩ := cons_of hl46
          obtain rfl := nil_of hl47
          have e46 : y46 = .bool false := h46 _ rfl
          subst e46
          simp only [putAll, Act.put, List.setIfInBounds_toArray, List.set_cons_zero, List.set_cons_succ]
          obtain ⟨F7, F8, D7, R7, hp7, ha7, _⟩ := hJ
          have HPV7 := Lib.hid hp7
          have HAL7 := Lib.hid ha7
          clear hSS hl hl0 h46 hp7 ha7
          go_wp2_with fail
          exact ⟨⟨j + 1, gd, F7, F8, D7, R7, by omega, by go_num, rfl, HPV7, HAL7⟩, by simp [intOf]; omega⟩
      · have e6 : (kd == 6) = false := by simpa using h6
        have e6' : decide (kd = 6) = false := decide_eq_false h6
        clear h6
        go_wp2_with fail
        clear hc0 e6 e6'
        obtain ⟨m, hm⟩ : ∃ m, m = R.stepS a := ⟨_, rfl⟩
        have HSTEP : Hid (∀ W, PairV w W gd g2 F1 F2 D R → Calls Try.prog 55 #[.pointer (some ⟨gd, 0, none⟩), .pointer (some ⟨g2, 0, none⟩), .agg (cellsA a).toArray] W (StepTo w gd g2 (j + 1) m)) := Lib.hid (fun W hp => by rw [hm]; exact step_any hp HAL.out (by omega) a HAO.out HLT.out.1 HLT.out.2)
        clear hm
        refine Ph.wp_region_all (ph [plA0 gd g2 bb ob n c j a m, plA1 gd g2 bb ob n c j a m]) (fun i _ W => match i with | 0 => PairV w W gd g2 F1 F2 D R | 1 => Good w gd g2 (j + 1) m W | _ => False) (fun W W' => Below W.heap.size W W') (fun _ _ _ => True) [6] [some 78, some 79, some 80, some 81, some 82, some 83, some 84, some 85, some 86, some 87, some 88, some 89, some 90, some 91, some 92, some 93, some 94, some 95, some 96, some 97, some 98, some 99, some 100, some 101, some 102, some 103, some 104, some 105, some 106, some 107, some 108, some 109, some 110, some 111, some 112, some 113, some 114, some 115, some 116, some 117, some 118, some 119, some 120, some 121, some 122, some 123, some 124] mixedP (by kernel_rfl) (by kernel_rfl) (by kernel_rfl) (by kernel_rfl) (ph_keep (plA_keep gd g2 bb ob n c j a m)) (fun kx jx u W W' _ hs => ph_turn (plA_turns gd g2 bb ob n c j a m) kx jx u W W' hs) (HPV.out.grow (Below.refl _ _).drew) ?steps ?fin
        case steps =>
          refine all_lt 47 ?_
          simp only [AllLt]
          refine ⟨?_, ?_, ?_, ?_, ?_, ?_, ?_, ?_, ?_, ?_, ?_, ?_, ?_, ?_, ?_, ?_, ?_, ?_, ?_, ?_, ?_, ?_, ?_, ?_, ?_, ?_, ?_, ?_, ?_, ?_, ?_, ?_, ?_, ?_, ?_, ?_, ?_, ?_, ?_, ?_, ?_, ?_, ?_, ?_, ?_, ?_, ?_, trivial⟩
          · refine step_upto (by kernel_rfl) 0 [] (by kernel_rfl) fun k hk a W hJ hf => ?_
            rcases k with _ | k
            · have h5 : a.tmps[5]? = some (.pointer (some ⟨gd, 0, none⟩)) := hf.old 5 (by kernel_rfl)
              apply op_value
              case ho => rfl
              case hw => exact (wanted_none rfl)
              case hrun => exact run_move (.inl rfl) (eval_tmp h5)
              case hS => exact rfl
              case hk => exact keep_refl _
              case hJ => exact hJ
            · omega
          · refine step_upto (by kernel_rfl) 0 [] (by kernel_rfl) fun k hk a W hJ hf => ?_
            rcases k with _ | k
            · have h7 : a.tmps[7]? = some (.pointer (some ⟨g2, 0, none⟩)) := hf.old 7 (by kernel_rfl)
              apply op_value
              case ho => rfl
              case hw => exact (wanted_none rfl)
              case hrun => exact run_move (.inl rfl) (eval_tmp h7)
              case hS => exact rfl
              case hk => exact keep_refl _
              case hJ => exact hJ
            · omega
          · refine step_upto (by kernel_rfl) 0 [5, 4] (by kernel_rfl) fun k hk a W hJ hf => ?_
            rcases k with _ | k
            · have h1 : a.tmps[1]? = some (.slice (some ⟨bb, ob, none⟩) n c) := hf.old 1 (by kernel_rfl)
              apply op_value
              case ho => rfl
              case hw => exact (wanted_none rfl)
              case hrun => exact run_move (.inl rfl) (eval_tmp h1)
              case hS => exact rfl
              case hk => exact keep_refl _
              case hJ => exact hJ
            · omega
          · refine step_upto (by kernel_rfl) 0 [5, 4] (by kernel_rfl) fun k hk a W hJ hf => ?_
            rcases k with _ | k
            · have h9 : a.tmps[9]? = some (.int .i64 (j : Nat)) := hf.old 9 (by kernel_rfl)
              apply op_value
              case ho => rfl
              case hw => exact (wanted_none rfl)
              case hrun => exact run_move (.inl rfl) (eval_tmp h9)
              case hS => exact rfl
              case hk => exact keep_refl _
              case hJ => exact hJ
            · omega
          · refine step_upto (by kernel_rfl) 0 [5] (by kernel_rfl) fun k hk a W hJ hf => ?_
            rcases k with _ | k
            · obtain ⟨v80, h80, rfl⟩ := hf.get 2 80 (by kernel_rfl) (by kernel_rfl)
              obtain ⟨v81, h81, rfl⟩ := hf.get 3 81 (by kernel_rfl) (by kernel_rfl)
              exact op_value rfl (wanted_none rfl) (run_indexAddr rfl (eval_tmp h80) (eval_tmp h81) (HIX.out W)) rfl (keep_refl _) hJ
            · omega
          · refine step_upto (by kernel_rfl) 0 [] (by kernel_rfl) fun k hk a W hJ hf => ?_
            rcases k with _ | k
            · obtain ⟨v82, h82, rfl⟩ := hf.get 4 82 (by kernel_rfl) (by kernel_rfl)
              apply op_value
              case ho => rfl
              case hw => exact (wanted_none rfl)
              case hrun => exact run_load rfl (eval_tmp h82) (ldA (HRA.out W hJ.below))
              case hS => exact rfl
              case hk => exact keep_refl _
              case hJ => exact hJ
            · omega
          · refine step_eff 0 (by kernel_rfl) (by kernel_rfl) (by kernel_rfl) fun a W hJ hf => ?_
            obtain ⟨v78, h78, rfl⟩ := hf.get 0 78 (by kernel_rfl) (by kernel_rfl)
            obtain ⟨v79, h79, rfl⟩ := hf.get 1 79 (by kernel_rfl) (by kernel_rfl)
            obtain ⟨v83, h83, rfl⟩ := hf.get 5 83 (by kernel_rfl) (by kernel_rfl)
            refine op_call rfl (wanted_none rfl) (run_call rfl (args_three (eval_tmp h78) (eval_tmp h79) (eval_tmp h83)) (cf55 _ _)) ?_
            refine (HSTEP.out W hJ).mono ?_
            rintro e W' ⟨rfl, hs⟩
            exact ⟨_, rfl, rfl, trivial, hs⟩
          · refine step_pure (by kernel_rfl) fun k a W hJ hf => ?_
            rcases k with _ | k
            · obtain ⟨_, _, hno⟩ := hf.dep 6 (by kernel_rfl)
              exact hno.elim
            rcases k with _ | k
            · obtain ⟨v84, h84, rfl⟩ := hf.get 6 84 (by kernel_rfl) (by kernel_rfl)
              apply op_value
              case ho => rfl
              case hw => exact (wanted_none rfl)
              case hrun => exact run_un rfl (eval_tmp h84) (by rfl)
              case hS => exact rfl
              case hk => exact keep_refl _
              case hJ => exact hJ
            · exact hJ.elim
          · refine step_pure (by kernel_rfl) fun k a W hJ hf => ?_
            rcases k with _ | k
            · obtain ⟨_, _, hno⟩ := hf.dep 7 (by kernel_rfl)
              exact hno.elim
            rcases k with _ | k
            · obtain ⟨v85, h85, rfl⟩ := hf.get 7 85 (by kernel_rfl) (by kernel_rfl)
              apply op_value
              case ho => rfl
              case hw => exact (wanted_none rfl)
              case hrun => exact run_move (.inl rfl) (eval_tmp h85)
              case hS => exact rfl
              case hk => exact keep_refl _
              case hJ => exact hJ
            · exact hJ.elim
          · refine step_pure (by kernel_rfl) fun k a W hJ hf => ?_
            rcases k with _ | k
            · obtain ⟨_, _, hno⟩ := hf.dep 8 (by kernel_rfl)
              exact hno.elim
            rcases k with _ | k
            · obtain ⟨v86, h86, rfl⟩ := hf.get 8 86 (by kernel_rfl) (by kernel_rfl)
              have h5 : a.tmps[5]? = some (.pointer (some ⟨gd, 0, none⟩)) := hf.old 5 (by kernel_rfl)
              apply op_value
              case ho => rfl
              case hw => exact (wanted_some rfl (by kernel_rfl) h86)
              case hrun => exact run_move (.inl rfl) (eval_tmp h5)
              case hS => exact rfl
              case hk => exact keep_refl _
              case hJ => exact hJ
            · exact hJ.elim
          · refine step_pure (by kernel_rfl) fun k a W hJ hf => ?_
            rcases k with _ | k
            · obtain ⟨_, _, hno⟩ := hf.dep 9 (by kernel_rfl)
              exact hno.elim
            rcases k with _ | k
            · obtain ⟨v86, h86, rfl⟩ := hf.get 8 86 (by kernel_rfl) (by kernel_rfl)
              obtain ⟨v87, h87, rfl⟩ := hf.get 9 87 (by kernel_rfl) (by kernel_rfl)
              refine op_call rfl (wanted_some rfl (by kernel_rfl) h86) (run_call rfl (args_one (eval_tmp h87)) (cf56 _ _)) ?_
              refine (Good.dsafe hJ).mono ?_
              rintro e W' ⟨v, rfl, hr, hb, hg⟩
              exact ⟨_, rfl, hr, hb, hg⟩
            · exact hJ.elim
          · refine step_pure (by kernel_rfl) fun k a W hJ hf => ?_
            rcases k with _ | k
            · obtain ⟨_, _, hno⟩ := hf.dep 8 (by kernel_rfl)
              exact hno.elim
            rcases k with _ | k
            · obtain ⟨v86, h86, rfl⟩ := hf.get 8 86 (by kernel_rfl) (by kernel_rfl)
              have h7 : a.tmps[7]? = some (.pointer (some ⟨g2, 0, none⟩)) := hf.old 7 (by kernel_rfl)
              apply op_value
              case ho => rfl
              case hw => exact (wanted_some rfl (by kernel_rfl) h86)
              case hrun => exact run_move (.inl rfl) (eval_tmp h7)
              case hS => exact rfl
              case hk => exact keep_refl _
              case hJ => exact hJ
            · exact hJ.elim
          · refine step_pure (by kernel_rfl) fun k a W hJ hf => ?_
            rcases k with _ | k
            · obtain ⟨_, _, hno⟩ := hf.dep 11 (by kernel_rfl)
              exact hno.elim
            rcases k with _ | k
            · obtain ⟨v86, h86, rfl⟩ := hf.get 8 86 (by kernel_rfl) (by kernel_rfl)
              obtain ⟨v89, h89, rfl⟩ := hf.get 11 89 (by kernel_rfl) (by kernel_rfl)
              apply op_value
              case ho => rfl
              case hw => exact (wanted_some rfl (by kernel_rfl) h86)
              case hrun => exact run_nilCheck rfl (eval_tmp h89)
              case hS => exact rfl
              case hk => exact keep_refl _
              case hJ => exact hJ
            · exact hJ.elim
          · refine step_pure (by kernel_rfl) fun k a W hJ hf => ?_
            rcases k with _ | k
            · obtain ⟨_, _, hno⟩ := hf.dep 12 (by kernel_rfl)
              exact hno.elim
            rcases k with _ | k
            · obtain ⟨v86, h86, rfl⟩ := hf.get 8 86 (by kernel_rfl) (by kernel_rfl)
              obtain ⟨v90, h90, rfl⟩ := hf.get 12 90 (by kernel_rfl) (by kernel_rfl)
              apply op_value
              case ho => rfl
              case hw => exact (wanted_some rfl (by kernel_rfl) h86)
              case hrun => exact run_fieldAddr rfl (eval_tmp h90) (V := (.pointer (some ⟨g2, 0, none⟩))) (by go_simp)
              case hS => exact rfl
              case hk => exact keep_refl _
              case hJ => exact hJ
            · exact hJ.elim
          · refine step_pure (by kernel_rfl) fun k a W hJ hf => ?_
            rcases k with _ | k
            · obtain ⟨_, _, hno⟩ := hf.dep 13 (by kernel_rfl)
              exact hno.elim
            rcases k with _ | k
            · obtain ⟨v86, h86, rfl⟩ := hf.get 8 86 (by kernel_rfl) (by kernel_rfl)
              obtain ⟨v91, h91, rfl⟩ := hf.get 13 91 (by kernel_rfl) (by kernel_rfl)
              obtain ⟨v, hrun, hr⟩ := Good.rsafe hJ
              exact op_value rfl (wanted_some rfl (by kernel_rfl) h86) (run_load rfl (eval_tmp h91) hrun) hr (keep_refl _) hJ
            · exact hJ.elim
          · refine step_pure (by kernel_rfl) fun k a W hJ hf => ?_
            rcases k with _ | k
            · obtain ⟨_, _, hno⟩ := hf.dep 10 (by kernel_rfl)
              exact hno.elim
            rcases k with _ | k
            · obtain ⟨v86, h86, rfl⟩ := hf.get 8 86 (by kernel_rfl) (by kernel_rfl)
              obtain ⟨v88, h88, A88, c88, rfl, r88⟩ := hf.get 10 88 (by kernel_rfl) (by kernel_rfl)
              obtain ⟨v92, h92, A92, c92, rfl, r92⟩ := hf.get 14 92 (by kernel_rfl) (by kernel_rfl)
              refine op_call rfl (wanted_some rfl (by kernel_rfl) h86) (run_call rfl (args_two (eval_tmp h88) (eval_tmp h92)) (cf34 _ _)) ?_
              refine (same_any A88 A92 c88 c92 m.safe W (Good.len hJ HK.out).1 r88 r92).mono ?_
              rintro e W' ⟨rfl, d, rfl⟩
              exact ⟨_, rfl, rfl, drew_below W d, Good.grow hJ (drew_below W d)⟩
            · exact hJ.elim
          · refine step_pure (by kernel_rfl) fun k a W hJ hf => ?_
            rcases k with _ | k
            · obtain ⟨_, _, hno⟩ := hf.dep 15 (by kernel_rfl)
              exact hno.elim
            rcases k with _ | k
            · obtain ⟨v86, h86, rfl⟩ := hf.get 8 86 (by kernel_rfl) (by kernel_rfl)
              obtain ⟨v93, h93, rfl⟩ := hf.get 15 93 (by kernel_rfl) (by kernel_rfl)
              apply op_value
              case ho => rfl
              case hw => exact (wanted_some rfl (by kernel_rfl) h86)
              case hrun => exact run_un rfl (eval_tmp h93) (by rfl)
              case hS => exact rfl
              case hk => exact keep_refl _
              case hJ => exact hJ
            · exact hJ.elim
          · refine step_pure (by kernel_rfl) fun k a W hJ hf => ?_
            rcases k with _ | k
            · obtain ⟨_, _, hno⟩ := hf.dep 8 (by kernel_rfl)
              exact hno.elim
            rcases k with _ | k
            · obtain ⟨v86, h86, rfl⟩ := hf.get 8 86 (by kernel_rfl) (by kernel_rfl)
              obtain ⟨v94, h94, rfl⟩ := hf.get 16 94 (by kernel_rfl) (by kernel_rfl)
              apply op_value
              case ho => rfl
              case hw => exact (wanted_none rfl)
              case hrun => exact run_pick_f rfl (eval_tmp h86) (eval_tmp h94)
              case hS => exact rfl
              case hk => exact keep_refl _
              case hJ => exact hJ
            · exact hJ.elim
          · refine step_pure (by kernel_rfl) fun k a W hJ hf => ?_
            rcases k with _ | k
            · obtain ⟨_, _, hno⟩ := hf.dep 17 (by kernel_rfl)
              exact hno.elim
            rcases k with _ | k
            · obtain ⟨v95, h95, rfl⟩ := hf.get 17 95 (by kernel_rfl) (by kernel_rfl)
              apply op_value
              case ho => rfl
              case hw => exact (wanted_none rfl)
              case hrun => exact run_move (.inl rfl) (eval_tmp h95)
              case hS => exact rfl
              case hk => exact keep_refl _
              case hJ => exact hJ
            · exact hJ.elim
          · refine step_pure (by kernel_rfl) fun k a W hJ hf => ?_
            rcases k with _ | k
            · obtain ⟨_, _, hno⟩ := hf.dep 18 (by kernel_rfl)
              exact hno.elim
            rcases k with _ | k
            · obtain ⟨v96, h96, rfl⟩ := hf.get 18 96 (by kernel_rfl) (by kernel_rfl)
              have h5 : a.tmps[5]? = some (.pointer (some ⟨gd, 0, none⟩)) := hf.old 5 (by kernel_rfl)
              apply op_value
              case ho => rfl
              case hw => exact (wanted_some rfl (by kernel_rfl) h96)
              case hrun => exact run_move (.inl rfl) (eval_tmp h5)
              case hS => exact rfl
              case hk => exact keep_refl _
              case hJ => exact hJ
            · exact hJ.elim
          · refine step_pure (by kernel_rfl) fun k a W hJ hf => ?_
            rcases k with _ | k
            · obtain ⟨_, _, hno⟩ := hf.dep 19 (by kernel_rfl)
              exact hno.elim
            rcases k with _ | k
            · obtain ⟨v96, h96, rfl⟩ := hf.get 18 96 (by kernel_rfl) (by kernel_rfl)
              obtain ⟨v97, h97, rfl⟩ := hf.get 19 97 (by kernel_rfl) (by kernel_rfl)
              refine op_call rfl (wanted_some rfl (by kernel_rfl) h96) (run_call rfl (args_one (eval_tmp h97)) (cf47 _ _)) ?_
              refine (Good.dwait hJ HK.out).mono ?_
              rintro e W' ⟨v, rfl, hr, hb, hg⟩
              exact ⟨_, rfl, hr, hb, hg⟩
            · exact hJ.elim
          · refine step_pure (by kernel_rfl) fun k a W hJ hf => ?_
            rcases k with _ | k
            · obtain ⟨_, _, hno⟩ := hf.dep 18 (by kernel_rfl)
              exact hno.elim
            rcases k with _ | k
            · obtain ⟨v96, h96, rfl⟩ := hf.get 18 96 (by kernel_rfl) (by kernel_rfl)
              have h7 : a.tmps[7]? = some (.pointer (some ⟨g2, 0, none⟩)) := hf.old 7 (by kernel_rfl)
              apply op_value
              case ho => rfl
              case hw => exact (wanted_some rfl (by kernel_rfl) h96)
              case hrun => exact run_move (.inl rfl) (eval_tmp h7)
              case hS => exact rfl
              case hk => exact keep_refl _
              case hJ => exact hJ
            · exact hJ.elim
          · refine step_pure (by kernel_rfl) fun k a W hJ hf => ?_
            rcases k with _ | k
            · obtain ⟨_, _, hno⟩ := hf.dep 21 (by kernel_rfl)
              exact hno.elim
            rcases k with _ | k
            · obtain ⟨v96, h96, rfl⟩ := hf.get 18 96 (by kernel_rfl) (by kernel_rfl)
              obtain ⟨v99, h99, rfl⟩ := hf.get 21 99 (by kernel_rfl) (by kernel_rfl)
              apply op_value
              case ho => rfl
              case hw => exact (wanted_some rfl (by kernel_rfl) h96)
              case hrun => exact run_nilCheck rfl (eval_tmp h99)
              case hS => exact rfl
              case hk => exact keep_refl _
              case hJ => exact hJ
            · exact hJ.elim
          · refine step_pure (by kernel_rfl) fun k a W hJ hf => ?_
            rcases k with _ | k
            · obtain ⟨_, _, hno⟩ := hf.dep 22 (by kernel_rfl)
              exact hno.elim
            rcases k with _ | k
            · obtain ⟨v96, h96, rfl⟩ := hf.get 18 96 (by kernel_rfl) (by kernel_rfl)
              obtain ⟨v100, h100, rfl⟩ := hf.get 22 100 (by kernel_rfl) (by kernel_rfl)
              apply op_value
              case ho => rfl
              case hw => exact (wanted_some rfl (by kernel_rfl) h96)
              case hrun => exact run_fieldAddr rfl (eval_tmp h100) (V := (.pointer (some ⟨g2, 1, none⟩))) (by go_simp)
              case hS => exact rfl
              case hk => exact keep_refl _
              case hJ => exact hJ
            · exact hJ.elim
          · refine step_pure (by kernel_rfl) fun k a W hJ hf => ?_
            rcases k with _ | k
            · obtain ⟨_, _, hno⟩ := hf.dep 23 (by kernel_rfl)
              exact hno.elim
            rcases k with _ | k
            · obtain ⟨v96, h96, rfl⟩ := hf.get 18 96 (by kernel_rfl) (by kernel_rfl)
              obtain ⟨v101, h101, rfl⟩ := hf.get 23 101 (by kernel_rfl) (by kernel_rfl)
              obtain ⟨v, hrun, hr⟩ := Good.rwait hJ
              exact op_value rfl (wanted_some rfl (by kernel_rfl) h96) (run_load rfl (eval_tmp h101) hrun) hr (keep_refl _) hJ
            · exact hJ.elim
          · refine step_pure (by kernel_rfl) fun k a W hJ hf => ?_
            rcases k with _ | k
            · obtain ⟨_, _, hno⟩ := hf.dep 20 (by kernel_rfl)
              exact hno.elim
            rcases k with _ | k
            · obtain ⟨v96, h96, rfl⟩ := hf.get 18 96 (by kernel_rfl) (by kernel_rfl)
              obtain ⟨v98, h98, A98, c98, rfl, r98⟩ := hf.get 20 98 (by kernel_rfl) (by kernel_rfl)
              obtain ⟨v102, h102, A102, c102, rfl, r102⟩ := hf.get 24 102 (by kernel_rfl) (by kernel_rfl)
              refine op_call rfl (wanted_some rfl (by kernel_rfl) h96) (run_call rfl (args_two (eval_tmp h98) (eval_tmp h102)) (cf57 _ _)) ?_
              refine (writes_same A98 A102 c98 c102 m.wait W (Good.len hJ HK.out).2.1 r98 r102).mono ?_
              rintro e W' ⟨rfl, d, rfl⟩
              exact ⟨_, rfl, rfl, drew_below W d, Good.grow hJ (drew_below W d)⟩
            · exact hJ.elim
          · refine step_pure (by kernel_rfl) fun k a W hJ hf => ?_
            rcases k with _ | k
            · obtain ⟨_, _, hno⟩ := hf.dep 25 (by kernel_rfl)
              exact hno.elim
            rcases k with _ | k
            · obtain ⟨v96, h96, rfl⟩ := hf.get 18 96 (by kernel_rfl) (by kernel_rfl)
              obtain ⟨v103, h103, rfl⟩ := hf.get 25 103 (by kernel_rfl) (by kernel_rfl)
              apply op_value
              case ho => rfl
              case hw => exact (wanted_some rfl (by kernel_rfl) h96)
              case hrun => exact run_un rfl (eval_tmp h103) (by rfl)
              case hS => exact rfl
              case hk => exact keep_refl _
              case hJ => exact hJ
            · exact hJ.elim
          · refine step_pure (by kernel_rfl) fun k a W hJ hf => ?_
            rcases k with _ | k
            · obtain ⟨_, _, hno⟩ := hf.dep 18 (by kernel_rfl)
              exact hno.elim
            rcases k with _ | k
            · obtain ⟨v96, h96, rfl⟩ := hf.get 18 96 (by kernel_rfl) (by kernel_rfl)
              obtain ⟨v104, h104, rfl⟩ := hf.get 26 104 (by kernel_rfl) (by kernel_rfl)
              apply op_value
              case ho => rfl
              case hw => exact (wanted_none rfl)
              case hrun => exact run_pick_f rfl (eval_tmp h96) (eval_tmp h104)
              case hS => exact rfl
              case hk => exact keep_refl _
              case hJ => exact hJ
            · exact hJ.elim
          · refine step_pure (by kernel_rfl) fun k a W hJ hf => ?_
            rcases k with _ | k
            · obtain ⟨_, _, hno⟩ := hf.dep 27 (by kernel_rfl)
              exact hno.elim
            rcases k with _ | k
            · obtain ⟨v105, h105, rfl⟩ := hf.get 27 105 (by kernel_rfl) (by kernel_rfl)
              apply op_value
              case ho => rfl
              case hw => exact (wanted_none rfl)
              case hrun => exact run_move (.inl rfl) (eval_tmp h105)
              case hS => exact rfl
              case hk => exact keep_refl _
              case hJ => exact hJ
            · exact hJ.elim
          · refine step_pure (by kernel_rfl) fun k a W hJ hf => ?_
            rcases k with _ | k
            · obtain ⟨_, _, hno⟩ := hf.dep 28 (by kernel_rfl)
              exact hno.elim
            rcases k with _ | k
            · obtain ⟨v106, h106, rfl⟩ := hf.get 28 106 (by kernel_rfl) (by kernel_rfl)
              have h5 : a.tmps[5]? = some (.pointer (some ⟨gd, 0, none⟩)) := hf.old 5 (by kernel_rfl)
              apply op_value
              case ho => rfl
              case hw => exact (wanted_some rfl (by kernel_rfl) h106)
              case hrun => exact run_move (.inl rfl) (eval_tmp h5)
              case hS => exact rfl
              case hk => exact keep_refl _
              case hJ => exact hJ
            · exact hJ.elim
          · refine step_pure (by kernel_rfl) fun k a W hJ hf => ?_
            rcases k with _ | k
            · obtain ⟨_, _, hno⟩ := hf.dep 29 (by kernel_rfl)
              exact hno.elim
            rcases k with _ | k
            · obtain ⟨v106, h106, rfl⟩ := hf.get 28 106 (by kernel_rfl) (by kernel_rfl)
              obtain ⟨v107, h107, rfl⟩ := hf.get 29 107 (by kernel_rfl) (by kernel_rfl)
              refine op_call rfl (wanted_some rfl (by kernel_rfl) h106) (run_call rfl (args_one (eval_tmp h107)) (cf59 _ _)) ?_
              refine (Good.dlog hJ HK.out).mono ?_
              rintro e W' ⟨v, rfl, hr, hb, hg⟩
              exact ⟨_, rfl, hr, hb, hg⟩
            · exact hJ.elim
          · refine step_pure (by kernel_rfl) fun k a W hJ hf => ?_
            rcases k with _ | k
            · obtain ⟨_, _, hno⟩ := hf.dep 28 (by kernel_rfl)
              exact hno.elim
            rcases k with _ | k
            · obtain ⟨v106, h106, rfl⟩ := hf.get 28 106 (by kernel_rfl) (by kernel_rfl)
              have h7 : a.tmps[7]? = some (.pointer (some ⟨g2, 0, none⟩)) := hf.old 7 (by kernel_rfl)
              apply op_value
              case ho => rfl
              case hw => exact (wanted_some rfl (by kernel_rfl) h106)
              case hrun => exact run_move (.inl rfl) (eval_tmp h7)
              case hS => exact rfl
              case hk => exact keep_refl _
              case hJ => exact hJ
            · exact hJ.elim
          · refine step_pure (by kernel_rfl) fun k a W hJ hf => ?_
            rcases k with _ | k
            · obtain ⟨_, _, hno⟩ := hf.dep 31 (by kernel_rfl)
              exact hno.elim
            rcases k with _ | k
            · obtain ⟨v106, h106, rfl⟩ := hf.get 28 106 (by kernel_rfl) (by kernel_rfl)
              obtain ⟨v109, h109, rfl⟩ := hf.get 31 109 (by kernel_rfl) (by kernel_rfl)
              apply op_value
              case ho => rfl
              case hw => exact (wanted_some rfl (by kernel_rfl) h106)
              case hrun => exact run_nilCheck rfl (eval_tmp h109)
              case hS => exact rfl
              case hk => exact keep_refl _
              case hJ => exact hJ
            · exact hJ.elim
          · refine step_pure (by kernel_rfl) fun k a W hJ hf => ?_
            rcases k with _ | k
            · obtain ⟨_, _, hno⟩ := hf.dep 32 (by kernel_rfl)
              exact hno.elim
            rcases k with _ | k
            · obtain ⟨v106, h106, rfl⟩ := hf.get 28 106 (by kernel_rfl) (by kernel_rfl)
              obtain ⟨v110, h110, rfl⟩ := hf.get 32 110 (by kernel_rfl) (by kernel_rfl)
              apply op_value
              case ho => rfl
              case hw => exact (wanted_some rfl (by kernel_rfl) h106)
              case hrun => exact run_fieldAddr rfl (eval_tmp h110) (V := (.pointer (some ⟨g2, 3, none⟩))) (by go_simp)
              case hS => exact rfl
              case hk => exact keep_refl _
              case hJ => exact hJ
            · exact hJ.elim
          · refine step_pure (by kernel_rfl) fun k a W hJ hf => ?_
            rcases k with _ | k
            · obtain ⟨_, _, hno⟩ := hf.dep 33 (by kernel_rfl)
              exact hno.elim
            rcases k with _ | k
            · obtain ⟨v106, h106, rfl⟩ := hf.get 28 106 (by kernel_rfl) (by kernel_rfl)
              obtain ⟨v111, h111, rfl⟩ := hf.get 33 111 (by kernel_rfl) (by kernel_rfl)
              obtain ⟨v, hrun, hr⟩ := Good.rlog hJ
              exact op_value rfl (wanted_some rfl (by kernel_rfl) h106) (run_load rfl (eval_tmp h111) hrun) hr (keep_refl _) hJ
            · exact hJ.elim
          · refine step_pure (by kernel_rfl) fun k a W hJ hf => ?_
            rcases k with _ | k
            · obtain ⟨_, _, hno⟩ := hf.dep 30 (by kernel_rfl)
              exact hno.elim
            rcases k with _ | k
            · obtain ⟨v106, h106, rfl⟩ := hf.get 28 106 (by kernel_rfl) (by kernel_rfl)
              obtain ⟨v108, h108, A108, c108, es108, rfl, g108, r108, t108⟩ := hf.get 30 108 (by kernel_rfl) (by kernel_rfl)
              obtain ⟨v112, h112, A112, c112, es112, rfl, g112, r112, t112⟩ := hf.get 34 112 (by kernel_rfl) (by kernel_rfl)
              refine op_call rfl (wanted_some rfl (by kernel_rfl) h106) (run_call rfl (args_two (eval_tmp h108) (eval_tmp h112)) (cf58 _ _)) ?_
              obtain ⟨_, _, hl3, hl4⟩ := Good.len hJ HK.out
              refine (events_same A108 A112 c108 c112 es108 es112 W (by rw [← List.length_map (f := sigE), g108]; exact hl3) (by rw [g108, g112]) r108 r112 (fun e he => ⟨hl4 (sigE e) (by rw [← g108]; exact List.mem_map.2 ⟨e, he, rfl⟩), t108 e he⟩) t112).mono ?_
              rintro e W' ⟨rfl, d, rfl⟩
              exact ⟨_, rfl, rfl, drew_below W d, Good.grow hJ (drew_below W d)⟩
            · exact hJ.elim
          · refine step_pure (by kernel_rfl) fun k a W hJ hf => ?_
            rcases k with _ | k
            · obtain ⟨_, _, hno⟩ := hf.dep 35 (by kernel_rfl)
              exact hno.elim
            rcases k with _ | k
            · obtain ⟨v106, h106, rfl⟩ := hf.get 28 106 (by kernel_rfl) (by kernel_rfl)
              obtain ⟨v113, h113, rfl⟩ := hf.get 35 113 (by kernel_rfl) (by kernel_rfl)
              apply op_value
              case ho => rfl
              case hw => exact (wanted_some rfl (by kernel_rfl) h106)
              case hrun => exact run_un rfl (eval_tmp h113) (by rfl)
              case hS => exact rfl
              case hk => exact keep_refl _
              case hJ => exact hJ
            · exact hJ.elim
          · refine step_pure (by kernel_rfl) fun k a W hJ hf => ?_
            rcases k with _ | k
            · obtain ⟨_, _, hno⟩ := hf.dep 28 (by kernel_rfl)
              exact hno.elim
            rcases k with _ | k
            · obtain ⟨v106, h106, rfl⟩ := hf.get 28 106 (by kernel_rfl) (by kernel_rfl)
              obtain ⟨v114, h114, rfl⟩ := hf.get 36 114 (by kernel_rfl) (by kernel_rfl)
              apply op_value
              case ho => rfl
              case hw => exact (wanted_none rfl)
              case hrun => exact run_pick_f rfl (eval_tmp h106) (eval_tmp h114)
              case hS => exact rfl
              case hk => exact keep_refl _
              case hJ => exact hJ
            · exact hJ.elim
          · refine step_pure (by kernel_rfl) fun k a W hJ hf => ?_
            rcases k with _ | k
            · obtain ⟨_, _, hno⟩ := hf.dep 37 (by kernel_rfl)
              exact hno.elim
            rcases k with _ | k
            · obtain ⟨v115, h115, rfl⟩ := hf.get 37 115 (by kernel_rfl) (by kernel_rfl)
              apply op_value
              case ho => rfl
              case hw => exact (wanted_none rfl)
              case hrun => exact run_move (.inl rfl) (eval_tmp h115)
              case hS => exact rfl
              case hk => exact keep_refl _
              case hJ => exact hJ
            · exact hJ.elim
          · refine step_pure (by kernel_rfl) fun k a W hJ hf => ?_
            rcases k with _ | k
            · obtain ⟨_, _, hno⟩ := hf.dep 38 (by kernel_rfl)
              exact hno.elim
            rcases k with _ | k
            · obtain ⟨v116, h116, rfl⟩ := hf.get 38 116 (by kernel_rfl) (by kernel_rfl)
              have h5 : a.tmps[5]? = some (.pointer (some ⟨gd, 0, none⟩)) := hf.old 5 (by kernel_rfl)
              apply op_value
              case ho => rfl
              case hw => exact (wanted_some rfl (by kernel_rfl) h116)
              case hrun => exact run_move (.inl rfl) (eval_tmp h5)
              case hS => exact rfl
              case hk => exact keep_refl _
              case hJ => exact hJ
            · exact hJ.elim
          · refine step_pure (by kernel_rfl) fun k a W hJ hf => ?_
            rcases k with _ | k
            · obtain ⟨_, _, hno⟩ := hf.dep 39 (by kernel_rfl)
              exact hno.elim
            rcases k with _ | k
            · obtain ⟨v116, h116, rfl⟩ := hf.get 38 116 (by kernel_rfl) (by kernel_rfl)
              obtain ⟨v117, h117, rfl⟩ := hf.get 39 117 (by kernel_rfl) (by kernel_rfl)
              refine op_call rfl (wanted_some rfl (by kernel_rfl) h116) (run_call rfl (args_one (eval_tmp h117)) (cf60 _ _)) ?_
              refine (Good.depoch hJ).mono ?_
              rintro e W' ⟨rfl, rfl⟩
              exact ⟨_, rfl, rfl, keep_refl _, hJ⟩
            · exact hJ.elim
          · refine step_pure (by kernel_rfl) fun k a W hJ hf => ?_
            rcases k with _ | k
            · obtain ⟨_, _, hno⟩ := hf.dep 38 (by kernel_rfl)
              exact hno.elim
            rcases k with _ | k
            · obtain ⟨v116, h116, rfl⟩ := hf.get 38 116 (by kernel_rfl) (by kernel_rfl)
              have h7 : a.tmps[7]? = some (.pointer (some ⟨g2, 0, none⟩)) := hf.old 7 (by kernel_rfl)
              apply op_value
              case ho => rfl
              case hw => exact (wanted_some rfl (by kernel_rfl) h116)
              case hrun => exact run_move (.inl rfl) (eval_tmp h7)
              case hS => exact rfl
              case hk => exact keep_refl _
              case hJ => exact hJ
            · exact hJ.elim
          · refine step_pure (by kernel_rfl) fun k a W hJ hf => ?_
            rcases k with _ | k
            · obtain ⟨_, _, hno⟩ := hf.dep 41 (by kernel_rfl)
              exact hno.elim
            rcases k with _ | k
            · obtain ⟨v116, h116, rfl⟩ := hf.get 38 116 (by kernel_rfl) (by kernel_rfl)
              obtain ⟨v119, h119, rfl⟩ := hf.get 41 119 (by kernel_rfl) (by kernel_rfl)
              apply op_value
              case ho => rfl
              case hw => exact (wanted_some rfl (by kernel_rfl) h116)
              case hrun => exact run_nilCheck rfl (eval_tmp h119)
              case hS => exact rfl
              case hk => exact keep_refl _
              case hJ => exact hJ
            · exact hJ.elim
          · refine step_pure (by kernel_rfl) fun k a W hJ hf => ?_
            rcases k with _ | k
            · obtain ⟨_, _, hno⟩ := hf.dep 42 (by kernel_rfl)
              exact hno.elim
            rcases k with _ | k
            · obtain ⟨v116, h116, rfl⟩ := hf.get 38 116 (by kernel_rfl) (by kernel_rfl)
              obtain ⟨v120, h120, rfl⟩ := hf.get 42 120 (by kernel_rfl) (by kernel_rfl)
              apply op_value
              case ho => rfl
              case hw => exact (wanted_some rfl (by kernel_rfl) h116)
              case hrun => exact run_fieldAddr rfl (eval_tmp h120) (V := (.pointer (some ⟨g2, 2, none⟩))) (by go_simp)
              case hS => exact rfl
              case hk => exact keep_refl _
              case hJ => exact hJ
            · exact hJ.elim
          · refine step_pure (by kernel_rfl) fun k a W hJ hf => ?_
            rcases k with _ | k
            · obtain ⟨_, _, hno⟩ := hf.dep 43 (by kernel_rfl)
              exact hno.elim
            rcases k with _ | k
            · obtain ⟨v116, h116, rfl⟩ := hf.get 38 116 (by kernel_rfl) (by kernel_rfl)
              obtain ⟨v121, h121, rfl⟩ := hf.get 43 121 (by kernel_rfl) (by kernel_rfl)
              apply op_value
              case ho => rfl
              case hw => exact (wanted_some rfl (by kernel_rfl) h116)
              case hrun => exact run_load rfl (eval_tmp h121) (Good.repoch hJ)
              case hS => exact rfl
              case hk => exact keep_refl _
              case hJ => exact hJ
            · exact hJ.elim
          · refine step_pure (by kernel_rfl) fun k a W hJ hf => ?_
            rcases k with _ | k
            · obtain ⟨_, _, hno⟩ := hf.dep 40 (by kernel_rfl)
              exact hno.elim
            rcases k with _ | k
            · obtain ⟨v116, h116, rfl⟩ := hf.get 38 116 (by kernel_rfl) (by kernel_rfl)
              obtain ⟨v118, h118, rfl⟩ := hf.get 40 118 (by kernel_rfl) (by kernel_rfl)
              obtain ⟨v122, h122, rfl⟩ := hf.get 44 122 (by kernel_rfl) (by kernel_rfl)
              apply op_value
              case ho => rfl
              case hw => exact (wanted_some rfl (by kernel_rfl) h116)
              case hrun => exact run_bin rfl (eval_tmp h118) (eval_tmp h122) rfl (neqI W _)
              case hS => exact rfl
              case hk => exact keep_refl _
              case hJ => exact hJ
            · exact hJ.elim
          · refine step_pure (by kernel_rfl) fun k a W hJ hf => ?_
            rcases k with _ | k
            · obtain ⟨_, _, hno⟩ := hf.dep 38 (by kernel_rfl)
              exact hno.elim
            rcases k with _ | k
            · obtain ⟨v116, h116, rfl⟩ := hf.get 38 116 (by kernel_rfl) (by kernel_rfl)
              obtain ⟨v123, h123, rfl⟩ := hf.get 45 123 (by kernel_rfl) (by kernel_rfl)
              apply op_value
              case ho => rfl
              case hw => exact (wanted_none rfl)
              case hrun => exact run_pick_f rfl (eval_tmp h116) (eval_tmp h123)
              case hS => exact rfl
              case hk => exact keep_refl _
              case hJ => exact hJ
            · exact hJ.elim
        case fin =>
          intro vs w9 hl hJ hSS
          have hl0 : vs.length = 47 := hl
          have h46 := fun v hv => hSS 46 v hv
          obtain ⟨y0, r0, rfl, hl1⟩ := cons_of hl0
          obtain ⟨y1, r1, rfl, hl2⟩ := cons_of hl1
          obtain ⟨y2, r2, rfl, hl3⟩ := cons_of hl2
          obtain ⟨y3, r3, rfl, hl4⟩ := cons_of hl3
          obtain ⟨y4, r4, rfl, hl5⟩ := cons_of hl4
          obtain ⟨y5, r5, rfl, hl6⟩ := cons_of hl5
          obtain ⟨y6, r6, rfl, hl7⟩ := cons_of hl6
          obtain ⟨y7, r7, rfl, hl8⟩ := cons_of hl7
          obtain ⟨y8, r8, rfl, hl9⟩ := cons_of hl8
          obtain ⟨y9, r9, rfl, hl10⟩ := cons_of hl9
          obtain ⟨y10, r10, rfl, hl11⟩ := cons_of hl10
          obtain ⟨y11, r11, rfl, hl12⟩ := cons_of hl11
          obtain ⟨y12, r12, rfl, hl13⟩ := cons_of hl12
          obtain ⟨y13, r13, rfl, hl14⟩ := cons_of hl13
          obtain ⟨y14, r14, rfl, hl15⟩ := cons_of hl14
          obtain ⟨y15, r15, rfl, hl16⟩ := cons_of hl15
          obtain ⟨y16, r16, rfl, hl17⟩ := cons_of hl16
          obtain ⟨y17, r17, rfl, hl18⟩ := cons_of hl17
          obtain ⟨y18, r18, rfl, hl19⟩ := cons_of hl18
          obtain ⟨y19, r19, rfl, hl20⟩ := cons_of hl19
          obtain ⟨y20, r20, rfl, hl21⟩ := cons_of hl20
          obtain ⟨y21, r21, rfl, hl22⟩ := cons_of hl21
          obtain ⟨y22, r22, rfl, hl23⟩ := cons_of hl22
          obtain ⟨y23, r23, rfl, hl24⟩ := cons_of hl23
          obtain ⟨y24, r24, rfl, hl25⟩ := cons_of hl24
          obtain ⟨y25, r25, rfl, hl26⟩ := cons_of hl25
          obtain ⟨y26, r26, rfl, hl27⟩ := cons_of hl26
          obtain ⟨y27, r27, rfl, hl28⟩ := cons_of hl27
          obtain ⟨y28, r28, rfl, hl29⟩ := cons_of hl28
          obtain ⟨y29, r29, rfl, hl30⟩ := cons_of hl29
          obtain ⟨y30, r30, rfl, hl31⟩ := cons_of hl30
          obtain ⟨y31, r31, rfl, hl32⟩ := cons_of hl31
          obtain ⟨y32, r32, rfl, hl33⟩ := cons_of hl32
          obtain ⟨y33, r33, rfl, hl34⟩ := cons_of hl33
          obtain ⟨y34, r34, rfl, hl35⟩ := cons_of hl34
          obtain ⟨y35, r35, rfl, hl36⟩ := cons_of hl35
          obtain ⟨y36, r36, rfl, hl37⟩ := cons_of hl36
          obtain ⟨y37, r37, rfl, hl38⟩ := cons_of hl37
          obtain ⟨y38, r38, rfl, hl39⟩ := cons_of hl38
          obtain ⟨y39, r39, rfl, hl40⟩ := cons_of hl39
          obtain ⟨y40, r40, rfl, hl41⟩ := cons_of hl40
          obtain ⟨y41, r41, rfl, hl42⟩ := cons_of hl41
          obtain ⟨y42, r42, rfl, hl43⟩ := cons_of hl42
          obtain ⟨y43, r43, rfl, hl44⟩ := cons_of hl43
          obtain ⟨y44, r44, rfl, hl45⟩ := cons_of hl44
          obtain ⟨y45, r45, rfl, hl46⟩ := cons_of hl45
          obtain ⟨y46, r46, rfl, hl47⟩ := cons_of hl46
          obtain rfl := nil_of hl47
          have e46 : y46 = .bool false := h46 _ rfl
          subst e46
          simp only [putAll, Act.put, List.setIfInBounds_toArray, List.set_cons_zero, List.set_cons_succ]
          obtain ⟨F7, F8, D7, R7, hp7, ha7, _⟩ := hJ
          have HPV7 := Lib.hid hp7
          have HAL7 := Lib.hid ha7
          clear hSS hl hl0 h46 hp7 ha7
          go_wp2_with fail
          exact ⟨⟨j + 1, gd, F7, F8, D7, R7, by omega, by go_num, rfl, HPV7, HAL7⟩, by simp [intOf]; omega⟩
    · obtain rfl : j = n := by omega
      have hl2 : decide ((j : Int) < (j : Int)) = false := by simp
      clear hlt
      go_wp2_with fail
      go_ret
      exact ⟨rfl, HPV.out.below⟩
end Go.Proofs.Ytikhhipgamllgaa

