/- Regions in two phases: small tools for the order rule with stores. Conditions: in each theorem. -/
import Derived.Test.YtikhhipgamllgaaDoorOrd
import Derived.Test.YtikhhipgamllgaaDoorSec
import Derived.WalkKit
namespace Go.Proofs.YtikhhipgamllgaaDoor
open Go.RowKit OrdT
section
variable {P : Program} {o : Oper} {a : Act} {w : World}
theorem run_fieldAddr {s : TypeId} {x : Operand} {f : Nat} {X V : Value} (ho : o.op = .fieldAddr s x f) (hx : a.eval x = X) (h : (Instr.fieldAt s X f).run P w = .ok V w) : (execOp a.eval o).run P w = .ok (.value V) w := by
  unfold execOp; simp only [ho, hx, h, Sem.run_bind, Result.andThen_ok, Sem.run_pure]
theorem run_load {t : TypeId} {x : Operand} {X V : Value} (ho : o.op = .load t x) (hx : a.eval x = X) (h : (Instr.loadAt t X).run P w = .ok V w) : (execOp a.eval o).run P w = .ok (.value V) w := by
  unfold execOp; simp only [ho, hx, h, Sem.run_bind, Result.andThen_ok, Sem.run_pure]
theorem run_alloc {t : TypeId} {z : Value} (ho : o.op = .alloc t) (h : (zeroValue t).run P w = .ok z w) : (execOp a.eval o).run P w = .ok (.value (.pointer (some ⟨w.heap.size, 0, none⟩))) (w.alloc (.cells z.cells t)) := by
  unfold execOp; simp only [ho, Instr.alloc, Sem.run_bind, h, Result.andThen_ok]; rfl
theorem run_len {x : Operand} {A : Option Addr} {n c : Nat} {t e : TypeId} (ho : o.op = .call { callee := .builtin .len, args := #[x], argTypes := #[t] }) (hx : a.eval x = .slice A n c) (ht : P.underlying t = some (.slice e)) : (execOp a.eval o).run P w = .ok (.value (.int .i64 n)) w := by
  unfold execOp; simp only [ho, resolve, invoke, Sem.run_bind, Sem.run_pure, Result.andThen_ok, List.map_toArray, List.map_cons, List.map_nil, hx]
  simp [builtin, Builtin.len_, goInt, run_underlying ht]
theorem run_store {t : TypeId} {x y : Operand} {X Y : Value} {w' : World} (ho : o.op = .store t x y) (hx : a.eval x = X) (hy : a.eval y = Y) (h : (Instr.storeAt t X Y).run P w = .ok () w') : (execOp a.eval o).run P w = .ok .skip w' := by
  unfold execOp; simp only [ho, hx, hy, h, Sem.run_bind, Result.andThen_ok, Sem.run_pure]
theorem run_buildSlice {t : TypeId} {m : Nat} {ps : Array (Nat × Operand)} {vs : Array (Nat × Value)} {V : Value} {w' : World} (ho : o.op = .buildSlice t m ps) (hp : ps.map (fun (i, x) => (i, a.eval x)) = vs) (h : (Instr.buildSlice t m vs).run P w = .ok V w') : (execOp a.eval o).run P w = .ok (.value V) w' := by
  unfold execOp; simp only [ho, hp, h, Sem.run_bind, Result.andThen_ok, Sem.run_pure]
end
section
variable {P : Program} {ops : Array Oper} {Q : Exit → Act → World → Prop}
theorem op_store {S : Nat → Value → World → Prop} {J : Act → World → Prop} {Keep : World → World → Prop} {i : Nat} {o : Oper} {a : Act} {w w' : World} (ho : ops[i]? = some o) (hw : Region.wanted o (yielded ops a.tmps) = true)
    (hrun : (execOp a.eval o).run P w = .ok .skip w') (hS : S i undef w') (hk : Keep w w') (hJ : J (a.put o.dst undef) w') : OpStep P ops Q S Keep J i a w := by
  unfold OpStep wpOp
  simp only [ho, hw, if_true]
  left
  unfold Oper.wp
  rw [hrun]
  exact ⟨undef, by simp [dstOf, ho], hS, hk, hJ⟩
end
/-! ### what operations leave, in two phases -/
def Keeps (p : Value → World → Prop) : Prop := ∀ v w w', Below w.heap.size w w' → p v w → p v w'
theorem keep_eqv (V : Value) : Keeps (eqv V) := fun _ _ _ _ h => h
theorem keep_pure (p : Value → Prop) : Keeps (fun v _ => p v) := fun _ _ _ _ h => h
def two (L0 L1 : List (Value → World → Prop)) (k j : Nat) : Value → World → Prop := match k with
  | 0 => L0.getD j (fun _ _ => True)
  | _ + 1 => L1.getD j (fun _ _ => True)
theorem keep_all (l : List (Value → World → Prop)) (hl : ∀ p ∈ l, Keeps p) (j : Nat) (v : Value) (w w' : World) (h : Below w.heap.size w w') (hs : l.getD j (fun _ _ => True) v w) : l.getD j (fun _ _ => True) v w' := by
  rcases Nat.lt_or_ge j l.length with hj | hj
  · have e : l.getD j (fun _ _ => True) = l[j] := by simp [List.getD, hj]
    rw [e] at hs ⊢
    exact hl _ (List.getElem_mem hj) v w w' h hs
  · have e : l.getD j (fun _ _ => True) = fun _ _ => True := by simp [List.getD, List.getElem?_eq_none hj]
    rw [e]; trivial
theorem two_keep {L0 L1 : List (Value → World → Prop)} (h0 : ∀ p ∈ L0, Keeps p) (h1 : ∀ p ∈ L1, Keeps p) (k j : Nat) (v : Value) (w w' : World) (h : Below w.heap.size w w') (hs : two L0 L1 k j v w) : two L0 L1 k j v w' := by
  cases k with
  | zero => exact keep_all L0 h0 j v w w' h hs
  | succ k => exact keep_all L1 h1 j v w w' h hs
/-- what turns: each says the same of the value, or nothing any more -/
def Turns : List (Value → World → Prop) → List (Value → World → Prop) → Prop
  | p :: r, q :: s => (∀ v w w', p v w → q v w') ∧ Turns r s
  | [], [] => True
  | _, _ => False
theorem turns_all : ∀ (L0 L1 : List (Value → World → Prop)), Turns L0 L1 → ∀ j v w w', L0.getD j (fun _ _ => True) v w → L1.getD j (fun _ _ => True) v w'
  | [], [], _, _, _, _, _, _ => by simp
  | p :: r, q :: s, h, 0, v, w, w', hp => by
    simp only [List.getD_cons_zero] at hp ⊢
    exact h.1 v w w' hp
  | p :: r, q :: s, h, j + 1, v, w, w', hp => by
    simp only [List.getD_cons_succ] at hp ⊢
    exact turns_all r s h.2 j v w w' hp
  | [], _ :: _, h, _, _, _, _, _ => h.elim
  | _ :: _, [], h, _, _, _, _, _ => h.elim
theorem two_turn {L0 L1 : List (Value → World → Prop)} (h : Turns L0 L1) (k j : Nat) (v : Value) (w w' : World) (hk : k = 0) (hs : two L0 L1 k j v w) : two L0 L1 (k + 1) j v w' := by
  subst hk
  exact turns_all L0 L1 h j v w w' hs
theorem turn_eqv (V : Value) : ∀ (v : Value) (w w' : World), eqv V v w → eqv V v w' := fun _ _ _ h => h
theorem turn_true (p : Value → World → Prop) : ∀ (v : Value) (w w' : World), p v w → (fun _ _ => True : Value → World → Prop) v w' := fun _ _ _ _ => trivial
theorem turn_false (q : Value → World → Prop) : ∀ (v : Value) (w w' : World), (fun _ _ => False : Value → World → Prop) v w → q v w' := fun _ _ _ h => h.elim
theorem turn_pure (p : Value → Prop) : ∀ (v : Value) (w w' : World), (fun v _ => p v : Value → World → Prop) v w → (fun v _ => p v : Value → World → Prop) v w' := fun _ _ _ h => h
def AllLt (p : Nat → Prop) : Nat → Nat → Prop
  | _, 0 => True
  | i, n + 1 => p i ∧ AllLt p (i + 1) n
theorem allLt_from {p : Nat → Prop} : ∀ (n i : Nat), AllLt p i n → ∀ j, i ≤ j → j < i + n → p j
  | 0, i, _, j, h1, h2 => by omega
  | n + 1, i, h, j, h1, h2 => by
    rcases Nat.lt_or_ge i j with hlt | hge
    · exact allLt_from n (i + 1) h.2 j hlt (by omega)
    · have : j = i := by omega
      subst this
      exact h.1
theorem all_lt {p : Nat → Prop} (n : Nat) (h : AllLt p 0 n) : ∀ i, i < n → p i := fun i hi => allLt_from n 0 h i (Nat.zero_le _) (by omega)
/-! ### the program's own -/
theorem mixed_ok : Tryd.prog.follows .mixedOrders = true := by kernel_rfl
theorem cf12 (args : Array Value) (w : World) : (callFunc 12 args).run Tryd.prog w = .ok (.enter 12 args) w := by kernel_rfl
theorem cf14 (args : Array Value) (w : World) : (callFunc 14 args).run Tryd.prog w = .ok (.enter 14 args) w := by kernel_rfl
theorem cf15 (args : Array Value) (w : World) : (callFunc 15 args).run Tryd.prog w = .ok (.enter 15 args) w := by kernel_rfl
theorem cf16 (args : Array Value) (w : World) : (callFunc 16 args).run Tryd.prog w = .ok (.enter 16 args) w := by kernel_rfl
theorem eqg_str (w : World) (x y : Operand) (a b : ByteArray) : (eqGuard .eql 9 x y (.string a) (.string b)).run Tryd.prog w = .ok () w := by simp [go_sem]
theorem eq_str (w : World) (s : ByteArray) : (binOp .eql 9 (.string s) (.string s)).run Tryd.prog w = .ok (.bool true) w := by simp [go_sem]
theorem eqg_int (w : World) (t : TypeId) (x y : Operand) (k q : IntKind) (a b : Int) : (eqGuard .eql t x y (.int k a) (.int q b)).run Tryd.prog w = .ok () w := by simp [go_sem]
theorem eq_int (w : World) (a : Int) : (binOp .eql 3 (.int .i64 a) (.int .i64 a)).run Tryd.prog w = .ok (.bool true) w := by simp [go_sem]
theorem not_run (w : World) (b : Bool) : (Op.unary .not (.bool b)).run Tryd.prog w = Result.ok (.bool (!b)) w := by simp [go_sem]
theorem eq_sec (w : World) (s : Sec) : (binOp .eql 34 (.agg (cellsS s).toArray) (.agg (cellsS s).toArray)).run Tryd.prog w = .ok (.bool true) w := by
  rw [eql_sec]; simp
theorem load_sec {w : World} {g : Nat} {s : Sec} (h : Blk w g 34 (cellsS s).toArray) : (Instr.loadAt 34 (.pointer (some ⟨g, 0, none⟩))).run Tryd.prog w = .ok (.agg (cellsS s).toArray) w :=
  run_loadAt_mid w g 0 34 (cellsS s) _ (h.range 0 _ (fun j v hj => by rw [Nat.zero_add]; simpa using hj)) Tryd.underlying34 rfl (by rw [cellsS_len]; exact info34)
theorem zero_sec (w : World) : (zeroValue 34).run Tryd.prog w = .ok (.agg (cellsS zeroS).toArray) w := by kernel_rfl
theorem store_sec {w : World} {g : Nat} {cs : Array Value} {s : Sec} (h : Blk w g 34 cs) (hc : cs.size = 32) : ∃ w', (Instr.storeAt 34 (.pointer (some ⟨g, 0, none⟩)) (.agg (cellsS s).toArray)).run Tryd.prog w = .ok () w' ∧ Blk w' g 34 (cellsS s).toArray ∧ w.grownBy w' (some g) ∧ w'.heap.size = w.heap.size := by
  refine ⟨_, run_storeAt_mid w g 0 34 (cellsS s).toArray (h.there (by rw [List.size_toArray, cellsS_len, hc]; decide)) (by rw [List.size_toArray, cellsS_len]; exact info34) (all_oneCell_toArray (cellsS_one s)), ?_, grownBy_setCells w g 0 _, size_setCells' g _ 0 w⟩
  have := h.setCells_ (cellsS s) 0 w cs (by rw [cellsS_len, hc]; decide)
  rwa [spl_full (by rw [Array.length_toList, hc, cellsS_len])] at this
end Go.Proofs.YtikhhipgamllgaaDoor
