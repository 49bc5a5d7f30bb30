/- What the laws' last regions share: slices that read as bytes, strings compared, calls. Conditions: in the theorems. -/
import Derived.Test.YtnhpkkmjicphgaaKnows
import Derived.Test.YtnhpkkmjicphgaaOrderUse
import Derived.Test.YtnhpkkmjicphgaaRefTake
namespace Go.Proofs.Ytnhpkkmjicphgaa
open Go.RowKit
theorem Reads.next {w w1 : World} {n : Nat} {A : Option Addr} {xs : List Value} (h : Reads w w.heap.size 1 A n xs) (hb : Below w.heap.size w w1) : Reads w1 w1.heap.size 1 A n xs := (h.below hb).more hb.size
theorem bnext {w w1 w2 : World} (h : Below w.heap.size w w1) (hb : Below w1.heap.size w1 w2) : Below w.heap.size w w2 := h.trans (hb.mono h.size)
/-- a slice of bytes that came in -/
def IsRow8 (w : World) (a : Option Addr) (len cap : Nat) (z : List Int) : Prop :=
  (a = none ∧ len = 0 ∧ cap = 0 ∧ z = []) ∨
  ∃ x, a = some x ∧ len ≤ cap ∧ cap ≤ maxLen ∧ z.length = cap ∧ (∀ i, i < z.length → w.cell? (x.add i) = some (.int .u8 (z.getD i 0))) ∧ ∀ n ∈ z, (Lit.int .u8 n).wf = true
theorem isRow_reads {w : World} {a : Option Addr} {len cap : Nat} {z : List Int} (h : IsRow8 w a len cap z) : ∃ l : List UInt8, Reads w w.heap.size 1 a len (vb l) ∧ len ≤ cap := by
  rcases h with ⟨rfl, rfl, rfl, rfl⟩ | ⟨x, rfl, hl, hm, hz, hc, hw⟩
  · exact ⟨[], Reads.none_, Nat.le_refl _⟩
  · refine ⟨(z.take len).map fun n => UInt8.ofNat n.toNat, ⟨by simp [vb]; omega, fun hn => ⟨x, rfl, ?_, fun j u hj => ?_⟩⟩, hl⟩
    · have h0 := hc 0 (by omega)
      rcases Nat.lt_or_ge x.block w.heap.size with hlt | hge
      · exact hlt
      · simp [World.cell?, Addr.add, Array.getElem?_eq_none hge] at h0
    · have hjl : j < len := by
        rcases Nat.lt_or_ge j len with h1 | h1
        · exact h1
        · rw [List.getElem?_eq_none (by simp [vb]; omega)] at hj; cases hj
      rw [hc j (by omega)]
      have hj2 : j < z.length := by omega
      have hwf := hw z[j] (List.getElem_mem hj2)
      have hb : 0 ≤ z[j] ∧ z[j] ≤ 255 := by simpa [Lit.wf, IntKind.min, IntKind.max, IntKind.signed, IntKind.bits] using hwf
      simp [vb, hjl, hj2] at hj
      rw [← hj]
      simp [List.getD, hj2]
      omega
def LawPost (w : World) (e : Ending) (w' : World) : Prop := e = .returned (.bool true) ∧ Below w.heap.size w w'
def sl (t : List UInt8) (v : Value) (w : World) : Prop := ∃ A c, v = .slice A t.length c ∧ Reads w w.heap.size 1 A t.length (vb t)
def Keeps (p : Value → World → Prop) : Prop := ∀ v w w', Below w.heap.size w w' → p v w → p v w'
theorem keep_eqv (V : Value) : Keeps (eqv V) := fun _ _ _ _ h => h
theorem keep_sl (t : List UInt8) : Keeps (sl t) := fun _ _ _ hb ⟨A, c, hv, hr⟩ => ⟨A, c, hv, hr.next hb⟩
theorem keep_all (l : List (Value → World → Prop)) (hl : ∀ p ∈ l, Keeps p) (j : Nat) (v : Value) (w w' : World) (h : Below w.heap.size w w') (hs : l.getD j (fun _ _ => True) v w) : l.getD j (fun _ _ => True) v w' := by
  rcases Nat.lt_or_ge j l.length with hj | hj
  · have e : l.getD j (fun _ _ => True) = l[j] := by simp [List.getD, hj]
    rw [e] at hs ⊢
    exact hl _ (List.getElem_mem hj) v w w' h hs
  · have e : l.getD j (fun _ _ => True) = fun _ _ => True := by simp [List.getD, List.getElem?_eq_none hj]
    rw [e]; trivial
theorem post_step {w0 w w' : World} {k : Nat} {t : List UInt8} {e : Ending} (hJ : Below w0.heap.size w0 w) (h : UintPost w.heap.size 5 w k t e w') : ∃ v, e = .returned v ∧ sl t v w' ∧ Below w.heap.size w w' ∧ Below w0.heap.size w0 w' := by
  obtain ⟨g, cap, rfl, hown, hb⟩ := h
  have hl : t.length = k := by simpa [vb_len] using hown.1
  subst hl
  exact ⟨_, rfl, ⟨_, cap, rfl, Reads.of_own hown⟩, hb, bnext hJ hb⟩
theorem mixed_ok : Try.prog.follows .mixedOrders = true := by kernel_rfl
theorem cf6 (args : Array Value) (w : World) : (callFunc 6 args).run Try.prog w = .ok (.enter 6 args) w := by kernel_rfl
theorem cf7 (args : Array Value) (w : World) : (callFunc 7 args).run Try.prog w = .ok (.enter 7 args) w := by kernel_rfl
theorem cf8 (args : Array Value) (w : World) : (callFunc 8 args).run Try.prog w = .ok (.enter 8 args) w := by kernel_rfl
theorem cf9 (args : Array Value) (w : World) : (callFunc 9 args).run Try.prog w = .ok (.enter 9 args) w := by kernel_rfl
theorem cf10 (args : Array Value) (w : World) : (callFunc 10 args).run Try.prog w = .ok (.enter 10 args) w := by kernel_rfl
theorem cf11 (args : Array Value) (w : World) : (callFunc 11 args).run Try.prog w = .ok (.enter 11 args) w := by kernel_rfl
theorem cf12 (args : Array Value) (w : World) : (callFunc 12 args).run Try.prog w = .ok (.enter 12 args) w := by kernel_rfl
theorem eqg_run (w : World) (x y : Operand) (a b : ByteArray) : (eqGuard .eql 9 x y (.string a) (.string b)).run Try.prog w = .ok () w := by simp [go_sem]
theorem eqs_run {w : World} (l : List UInt8) : (binOp .eql 9 (.string ⟨l.toArray⟩) (.string ⟨l.toArray⟩)).run Try.prog w = .ok (.bool true) w := by simp [go_sem]
theorem eqgi_run (w : World) (t : TypeId) (x y : Operand) (k q : IntKind) (a b : Int) : (eqGuard .eql t x y (.int k a) (.int q b)).run Try.prog w = .ok () w := by simp [go_sem]
theorem eqn_run (w : World) (a : Int) : (binOp .eql 23 (.int .u64 a) (.int .u64 a)).run Try.prog w = .ok (.bool true) w := by simp [go_sem]
theorem eqi_run (w : World) (a : Int) : (binOp .eql 3 (.int .i64 a) (.int .i64 a)).run Try.prog w = .ok (.bool true) w := by simp [go_sem]
theorem not_run (w : World) (b : Bool) : (Op.unary .not (.bool b)).run Try.prog w = Result.ok (.bool (!b)) w := by simp [go_sem]
theorem len_run {o : Oper} {a : Act} {w : World} {x : Operand} {A : Option Addr} {n c : Nat} (ho : o.op = .call { callee := .builtin .len, args := #[x], argTypes := #[22] }) (hx : a.eval x = .slice A n c) : (execOp a.eval o).run Try.prog w = .ok (.value (.int .i64 (n : Int))) w := by
  obtain ⟨dst, op, ty, pos, after, guard⟩ := o
  simp only at ho
  subst ho
  generalize a.eval = ρ at hx ⊢
  simp [go_sem, hx]
def AllLt (p : Nat → Prop) : Nat → Nat → Prop
  | _, 0 => True
  | i, n + 1 => p i ∧ AllLt p (i + 1) n
theorem allLt_from {p : Nat → Prop} : ∀ (n i : Nat), AllLt p i n → ∀ j, i ≤ j → j < i + n → p j
  | 0, i, _, j, h1, h2 => by omega
  | n + 1, i, h, j, h1, h2 => by
    rcases Nat.lt_or_ge i j with hlt | hge
    · exact allLt_from n (i + 1) h.2 j hlt (by omega)
    · have : j = i := by omega
      subst this
      exact h.1
theorem all_lt {p : Nat → Prop} (n : Nat) (h : AllLt p 0 n) : ∀ i, i < n → p i := fun i hi => allLt_from n 0 h i (Nat.zero_le _) (by omega)
end Go.Proofs.Ytnhpkkmjicphgaa
