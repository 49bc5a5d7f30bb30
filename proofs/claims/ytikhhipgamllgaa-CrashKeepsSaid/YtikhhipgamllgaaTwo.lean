/- flotsamlaw06.two: a state with two writes that wait. Conditions: none. -/
import Derived.Test.YtikhhipgamllgaaAllR
import Derived.Test.YtikhhipgamllgaaImg
namespace Go.Proofs.Ytikhhipgamllgaa
open Go.RowKit
def secN (n : Int) : Sec := ⟨.int .u8 n :: List.replicate 31 (.int .u8 0), by
  refine ⟨by simp, fun v hv => ?_⟩
  rcases List.mem_cons.1 hv with h | h
  · exact ⟨n, h⟩
  · exact ⟨0, (List.mem_replicate.1 h).2⟩⟩
def wrN (a n e : Int) : Wr := { at_ := a, s := secN n, tk := 0, ti := 0, ep := e }
section
variable {P : Program} {w w' : World} {a : Act} {op : Oper}
/-- an operation whose run is known -/
theorem wpList_run {ops : Array Oper} {rest : List Oper} {Q : Exit → Act → World → Prop} (hgd : op.guard = none) (V : Value) (w' : World) (hr : (execOp a.eval op).run P w = .ok (.value V) w')
    (h : wpList P ops Q rest (a.put op.dst V) w') : wpList P ops Q (op :: rest) a w :=
  wpList_plain hgd fun _ hK => by
    unfold Oper.wp
    rw [hr]
    exact hK _ _ h
theorem run_mkSlice {t : TypeId} {l c : Operand} {L C V : Value} (ho : op.op = .makeSlice t l c) (hl : a.eval l = L) (hc : a.eval c = C) (h : (Instr.makeSlice t L C).run P w = .ok V w') : (execOp a.eval op).run P w = .ok (.value V) w' := by
  unfold execOp; simp only [ho, hl, hc, h, Sem.run_bind, Result.andThen_ok, Sem.run_pure]
theorem run_bldSlice {t : TypeId} {n : Nat} {ps : Array (Nat × Operand)} {vs : Array (Nat × Value)} {V : Value} (ho : op.op = .buildSlice t n ps) (hp : ps.map (fun (i, x) => (i, a.eval x)) = vs) (h : (Instr.buildSlice t n vs).run P w = .ok V w') : (execOp a.eval op).run P w = .ok (.value V) w' := by
  unfold execOp; simp only [ho, hp, h, Sem.run_bind, Result.andThen_ok, Sem.run_pure]
end
theorem mk40 (w : World) : (Instr.makeSlice 40 (.int .i64 2) (.int .i64 2)).run Try.prog w = .ok (.slice (some ⟨w.heap.size, 0, none⟩) 2 2) (w.alloc (.cells (cellsS (secN 0) ++ cellsS (secN 0)).toArray 66)) := by kernel_rfl
theorem bld41 (e : Int) (w : World) : (Instr.buildSlice 41 2 #[(0, .agg (cellsW (wrN 0 1 0)).toArray), (1, .agg (cellsW (wrN 1 2 e)).toArray)]).run Try.prog w = .ok (.slice (some ⟨w.heap.size, 0, none⟩) 2 2) (w.alloc (.cells (cellsW (wrN 0 1 0) ++ cellsW (wrN 1 2 e)).toArray 108)) := by kernel_rfl
/-- the state that 'two' makes -/
def GotTwo (w : World) (e : Int) (o : Ending) (w' : World) : Prop :=
  ∃ g1 g2, o = .returned (.agg #[.slice (some ⟨g1, 0, none⟩) 2 2, .slice (some ⟨g2, 0, none⟩) 2 2]) ∧ Reads w' w'.heap.size 32 (some ⟨g1, 0, none⟩) 2 ([secN 0, secN 0].flatMap cellsS) ∧
    Reads w' w'.heap.size 36 (some ⟨g2, 0, none⟩) 2 ([wrN 0 1 0, wrN 1 2 e].flatMap cellsW) ∧ Below w.heap.size w w'
theorem reads_blk {w : World} {g : Nat} {t : TypeId} {cs : List Value} {size n : Nat} (h : Blk w g t cs.toArray) (hl : cs.length = n * size) : Reads w w.heap.size size (some ⟨g, 0, none⟩) n cs :=
  ⟨hl, fun _ => ⟨⟨g, 0, none⟩, rfl, h.lt, fun j u hu => by rw [Addr.add_mid, Nat.zero_add]; exact h.list hu⟩⟩
set_option maxRecDepth 100000 in
set_option maxHeartbeats 1000000 in
theorem two_any (e : Int) (w : World) : Calls Try.prog 77 #[.int .i64 e] w (GotTwo w e) := by
  go_enter Try.func77, Try.ntmps77
  go_wp2_with (first | (with_reducible show wpList _ _ _ (Oper.mk _ (Op.makeSlice _ _ _) _ _ _ _ :: _) _ _; go_must (refine wpList_run rfl _ _ (run_mkSlice (L := .int .i64 2) (C := .int .i64 2) rfl rfl rfl (mk40 _)) ?_); go_frame; simp only [World.size_alloc]) | (with_reducible show wpList _ _ _ (Oper.mk (some 9) _ _ _ _ _ :: _) _ _; go_must (refine wpList_run rfl _ _ (run_bldSlice (vs := #[(0, .agg (cellsW (wrN 0 1 0)).toArray), (1, .agg (cellsW (wrN 1 2 e)).toArray)]) rfl (by simp [Act.eval]; exact ⟨rfl, rfl⟩) (bld41 e _)) ?_); go_frame))
  refine bodyPost_ret (v := .agg #[.slice (some ⟨w.heap.size + 1, 0, none⟩) 2 2, .slice (some ⟨w.heap.size + 1 + 1, 0, none⟩) 2 2]) (by simp [results, go_sem]) rfl ⟨w.heap.size + 1, w.heap.size + 1 + 1, rfl, ?_, ?_, ?_⟩
  · refine reads_blk (t := 66) (Blk.alloc ?_ _) rfl
    have := Blk.new (w.alloc (.cells #[.slice (some ⟨w.heap.size + 1, 0, none⟩) 2 2, .slice (some ⟨w.heap.size + 1 + 1, 0, none⟩) 2 2] 44)) 66 (cellsS (secN 0) ++ cellsS (secN 0)).toArray
    rw [World.size_alloc] at this
    exact this
  · refine reads_blk (t := 108) ?_ rfl
    have := Blk.new ((w.alloc (.cells #[.slice (some ⟨w.heap.size + 1, 0, none⟩) 2 2, .slice (some ⟨w.heap.size + 1 + 1, 0, none⟩) 2 2] 44)).alloc (.cells (cellsS (secN 0) ++ cellsS (secN 0)).toArray 66)) 108 (cellsW (wrN 0 1 0) ++ cellsW (wrN 1 2 e)).toArray
    rw [World.size_alloc, World.size_alloc] at this
    exact this
  · exact (((Below.refl _ w).alloc (Nat.le_refl _) _).alloc (by simp) _).alloc (by simp; omega) _
end Go.Proofs.Ytikhhipgamllgaa
