/- Single operations on sectors, inside a fence and outside; a slice of one sector. Conditions: none. -/
import Derived.Test.YtikhhipgamllgaaDoorChunk
import Derived.Test.YtikhhipgamllgaaDoorPut
namespace Go.Proofs.YtikhhipgamllgaaDoor
open Go.RowKit
section
variable {F : Fence} {n : Nat} {P : Program} {w w' : World} {a : Act} {o : Oper} {ops : Array Oper} {rest : List Oper} {Q : Exit → Act → World → Prop}
theorem about_none (hnc : ∀ c, o.op ≠ .call c) : o.about P w a.eval = none := by
  unfold Oper.about
  split
  · next c h => exact absurd h (hnc c)
  · rfl
theorem wpListIn_run (hgd : o.guard = none) (hnc : ∀ c, o.op ≠ .call c) (hnd : ∀ c, o.op ≠ .defer c) (V : Value) (w' : World) (h : (execOp a.eval o).run P w = .ok (.value V) w') (hk : wpListIn F n P ops Q rest (a.put o.dst V) w') : wpListIn F n P ops Q (o :: rest) a w :=
  wpListIn_plain hgd fun K hK => by
    unfold Oper.wpIn
    refine ⟨fun f hf => ?_, ?_⟩
    · rw [about_none hnc] at hf; cases hf
    · rw [Oper.semAt_plain _ _ _ hnd, h]; exact hK _ _ hk
theorem wpListIn_done (hgd : o.guard = none) (hnc : ∀ c, o.op ≠ .call c) (hnd : ∀ c, o.op ≠ .defer c) (w' : World) (h : (execOp a.eval o).run P w = .ok .skip w') (hk : wpListIn F n P ops Q rest (a.put o.dst undef) w') : wpListIn F n P ops Q (o :: rest) a w :=
  wpListIn_plain hgd fun K hK => by
    unfold Oper.wpIn
    refine ⟨fun f hf => ?_, ?_⟩
    · rw [about_none hnc] at hf; cases hf
    · rw [Oper.semAt_plain _ _ _ hnd, h]; exact hK _ _ hk
theorem wpList_run (hgd : o.guard = none) (V : Value) (w' : World) (hr : (execOp a.eval o).run P w = .ok (.value V) w') (h : wpList P ops Q rest (a.put o.dst V) w') : wpList P ops Q (o :: rest) a w :=
  wpList_plain hgd fun _ hK => by
    unfold Oper.wp
    rw [hr]
    exact hK _ _ h
theorem exec_alloc {t : TypeId} {V : Value} (ho : o.op = .alloc t) (h : (Instr.alloc t true (.tuple #[])).run P w = .ok V w') : (execOp a.eval o).run P w = .ok (.value V) w' := by
  unfold execOp; simp only [ho, h, Sem.run_bind, Result.andThen_ok, Sem.run_pure]
theorem exec_store {t : TypeId} {x y : Operand} {X Y : Value} (ho : o.op = .store t x y) (hx : a.eval x = X) (hy : a.eval y = Y) (h : (Instr.storeAt t X Y).run P w = .ok () w') : (execOp a.eval o).run P w = .ok .skip w' := by
  unfold execOp; simp only [ho, hx, hy, h, Sem.run_bind, Result.andThen_ok, Sem.run_pure]
theorem exec_load {t : TypeId} {x : Operand} {b i : Nat} {cs : List Value} {d : TypeDesc} (ho : o.op = .load t x) (hx : a.eval x = .pointer (some ⟨b, i, none⟩)) (hc : w.rangeAt b i cs) (hu : P.underlying t = some d) (hd : d.isRow = true) (hi : (P.info? t).map (·.size) = some cs.length) :
    (execOp a.eval o).run P w = .ok (.value (.agg cs.toArray)) w := by
  unfold execOp
  simp only [ho, hx, Instr.loadAt, Instr.sureAddr, Sem.run_bind, Sem.run_pure, Result.andThen_ok, run_loadVar_mid w b i t cs d hc hu hd hi]
theorem exec_bld {t : TypeId} {m : Nat} {ps : Array (Nat × Operand)} {vs : Array (Nat × Value)} {V : Value} (ho : o.op = .buildSlice t m ps) (hp : ps.map (fun (i, x) => (i, a.eval x)) = vs) (h : (Instr.buildSlice t m vs).run P w = .ok V w') : (execOp a.eval o).run P w = .ok (.value V) w' := by
  unfold execOp; simp only [ho, hp, h, Sem.run_bind, Result.andThen_ok, Sem.run_pure]
theorem exec_mk {t : TypeId} {l c : Operand} {L C V : Value} (ho : o.op = .makeSlice t l c) (hl : a.eval l = L) (hc : a.eval c = C) (h : (Instr.makeSlice t L C).run P w = .ok V w') : (execOp a.eval o).run P w = .ok (.value V) w' := by
  unfold execOp; simp only [ho, hl, hc, h, Sem.run_bind, Result.andThen_ok, Sem.run_pure]
theorem wpListIn_alloc {t : TypeId} {V : Value} (hgd : o.guard = none) (ho : o.op = .alloc t) (h : (Instr.alloc t true (.tuple #[])).run P w = .ok V w') (hk : wpListIn F n P ops Q rest (a.put o.dst V) w') : wpListIn F n P ops Q (o :: rest) a w :=
  wpListIn_run hgd (by rw [ho]; intro c h; cases h) (by rw [ho]; intro c h; cases h) _ _ (exec_alloc ho h) hk
theorem wpListIn_store {t : TypeId} {x y : Operand} {X Y : Value} (hgd : o.guard = none) (ho : o.op = .store t x y) (hx : a.eval x = X) (hy : a.eval y = Y) (h : (Instr.storeAt t X Y).run P w = .ok () w') (hk : wpListIn F n P ops Q rest (a.put o.dst undef) w') : wpListIn F n P ops Q (o :: rest) a w :=
  wpListIn_done hgd (by rw [ho]; intro c h; cases h) (by rw [ho]; intro c h; cases h) _ (exec_store ho hx hy h) hk
theorem wpListIn_load {t : TypeId} {x : Operand} {b i : Nat} {cs : List Value} {d : TypeDesc} (hgd : o.guard = none) (ho : o.op = .load t x) (hx : a.eval x = .pointer (some ⟨b, i, none⟩)) (hc : w.rangeAt b i cs) (hu : P.underlying t = some d) (hd : d.isRow = true) (hi : (P.info? t).map (·.size) = some cs.length)
    (hk : wpListIn F n P ops Q rest (a.put o.dst (.agg cs.toArray)) w) : wpListIn F n P ops Q (o :: rest) a w :=
  wpListIn_run hgd (by rw [ho]; intro c h; cases h) (by rw [ho]; intro c h; cases h) _ _ (exec_load ho hx hc hu hd hi) hk
theorem wpListIn_bld {t : TypeId} {m : Nat} {ps : Array (Nat × Operand)} {vs : Array (Nat × Value)} {V : Value} (hgd : o.guard = none) (ho : o.op = .buildSlice t m ps) (hp : ps.map (fun (i, x) => (i, a.eval x)) = vs) (h : (Instr.buildSlice t m vs).run P w = .ok V w')
    (hk : wpListIn F n P ops Q rest (a.put o.dst V) w') : wpListIn F n P ops Q (o :: rest) a w :=
  wpListIn_run hgd (by rw [ho]; intro c h; cases h) (by rw [ho]; intro c h; cases h) _ _ (exec_bld ho hp h) hk
/-- a slice of one part -/
theorem wpListIn_bld1 {t : TypeId} {x : Operand} {X : Value} {V : Value} (hgd : o.guard = none) (ho : o.op = .buildSlice t 1 #[(0, x)]) (hx : a.eval x = X) (h : (Instr.buildSlice t 1 #[(0, X)]).run P w = .ok V w')
    (hk : wpListIn F n P ops Q rest (a.put o.dst V) w') : wpListIn F n P ops Q (o :: rest) a w :=
  wpListIn_bld hgd ho (by simp [hx]) h hk
theorem wpList_bld1 {t : TypeId} {x : Operand} {X : Value} {V : Value} (hgd : o.guard = none) (ho : o.op = .buildSlice t 1 #[(0, x)]) (hx : a.eval x = X) (h : (Instr.buildSlice t 1 #[(0, X)]).run P w = .ok V w')
    (hk : wpList P ops Q rest (a.put o.dst V) w') : wpList P ops Q (o :: rest) a w :=
  wpList_run hgd _ _ (exec_bld ho (vs := #[(0, X)]) (by simp [hx]) h) hk
end
theorem alloc34 (w : World) : (Instr.alloc 34 true (.tuple #[])).run Tryd.prog w = .ok (.pointer (some ⟨w.heap.size, 0, none⟩)) (w.alloc (.cells (cellsS zeroS).toArray 34)) := by kernel_rfl
theorem store34 (w : World) (s t : Sec) : (Instr.storeAt 34 (.pointer (some ⟨w.heap.size, 0, none⟩)) (.agg (cellsS s).toArray)).run Tryd.prog (w.alloc (.cells (cellsS t).toArray 34)) = .ok () (w.alloc (.cells (cellsS s).toArray 34)) :=
  run_storeAt_new (P := Tryd.prog) w 34 (cellsS t).toArray (cellsS s).toArray (by rw [List.size_toArray, cellsS_len]; exact info34) (by simp [cellsS_len]) (all_oneCell_toArray (cellsS_one s))
theorem bldS (s : Sec) (w : World) : (Instr.buildSlice 23 1 #[(0, .agg (cellsS s).toArray)]).run Tryd.prog w = .ok (.slice (some ⟨w.heap.size, 0, none⟩) 1 1) (w.alloc (.cells (cellsS s).toArray 34)) := by
  obtain ⟨l, hl⟩ := s
  rcases l with _ | ⟨_, l⟩
  · simp at hl
  rcases l with _ | ⟨_, l⟩
  · simp at hl
  rcases l with _ | ⟨_, l⟩
  · simp at hl
  rcases l with _ | ⟨_, l⟩
  · simp at hl
  rcases l with _ | ⟨_, l⟩
  · simp at hl
  rcases l with _ | ⟨_, l⟩
  · simp at hl
  rcases l with _ | ⟨_, l⟩
  · simp at hl
  rcases l with _ | ⟨_, l⟩
  · simp at hl
  rcases l with _ | ⟨_, l⟩
  · simp at hl
  rcases l with _ | ⟨_, l⟩
  · simp at hl
  rcases l with _ | ⟨_, l⟩
  · simp at hl
  rcases l with _ | ⟨_, l⟩
  · simp at hl
  rcases l with _ | ⟨_, l⟩
  · simp at hl
  rcases l with _ | ⟨_, l⟩
  · simp at hl
  rcases l with _ | ⟨_, l⟩
  · simp at hl
  rcases l with _ | ⟨_, l⟩
  · simp at hl
  rcases l with _ | ⟨_, l⟩
  · simp at hl
  rcases l with _ | ⟨_, l⟩
  · simp at hl
  rcases l with _ | ⟨_, l⟩
  · simp at hl
  rcases l with _ | ⟨_, l⟩
  · simp at hl
  rcases l with _ | ⟨_, l⟩
  · simp at hl
  rcases l with _ | ⟨_, l⟩
  · simp at hl
  rcases l with _ | ⟨_, l⟩
  · simp at hl
  rcases l with _ | ⟨_, l⟩
  · simp at hl
  rcases l with _ | ⟨_, l⟩
  · simp at hl
  rcases l with _ | ⟨_, l⟩
  · simp at hl
  rcases l with _ | ⟨_, l⟩
  · simp at hl
  rcases l with _ | ⟨_, l⟩
  · simp at hl
  rcases l with _ | ⟨_, l⟩
  · simp at hl
  rcases l with _ | ⟨_, l⟩
  · simp at hl
  rcases l with _ | ⟨_, l⟩
  · simp at hl
  rcases l with _ | ⟨_, l⟩
  · simp at hl
  rcases l with _ | ⟨_, l⟩
  · kernel_rfl
  · simp at hl
end Go.Proofs.YtikhhipgamllgaaDoor
