/- The same rule in the form in which it is used: one goal for each operation; the frame behind the region written out. Conditions: in the theorems. -/
import Derived.Test.YtnhpkkmjicphgaaOrder
namespace Go.Proofs.Ytnhpkkmjicphgaa
open Go
section
variable {P : Program} {ops : Array Oper} {Q : Exit → Act → World → Prop}
/-- what the region has written, laid into the frame -/
def putFrom (ops : Array Oper) : Nat → List Value → Act → Act
  | _, [], a => a
  | i, v :: r, a => putFrom ops (i + 1) r (a.put (dstOf ops i) v)
theorem putFrom_defers : ∀ (vs : List Value) (i : Nat) (a : Act), (putFrom ops i vs a).defers = a.defers
  | [], _, _ => rfl
  | v :: r, i, a => by
    rw [putFrom, putFrom_defers r]
    cases dstOf ops i <;> rfl
theorem putFrom_size : ∀ (vs : List Value) (i : Nat) (a : Act), (putFrom ops i vs a).tmps.size = a.tmps.size
  | [], _, _ => rfl
  | v :: r, i, a => by
    rw [putFrom, putFrom_size r]
    cases dstOf ops i <;> simp [Act.put]
theorem putFrom_other : ∀ (vs : List Value) (i : Nat) (a : Act) (t : Tmp), (∀ j, i ≤ j → j < i + vs.length → dstOf ops j ≠ some t) → (putFrom ops i vs a).tmps[t]? = a.tmps[t]?
  | [], _, _, _, _ => rfl
  | v :: r, i, a, t, h => by
    rw [putFrom, putFrom_other r (i + 1) _ t (fun j h1 h2 => h j (by omega) (by simp; omega))]
    exact Act.put_get_other (h i (Nat.le_refl _) (by simp))
theorem putFrom_same (ht : tidy ops = true) : ∀ (vs : List Value) (i : Nat) (a : Act) (j : Nat) (t : Tmp) (v : Value), i + vs.length ≤ ops.size → vs[j]? = some v → dstOf ops (i + j) = some t → t < a.tmps.size → (putFrom ops i vs a).tmps[t]? = some v
  | [], _, _, _, _, _, _, h, _, _ => by simp at h
  | u :: r, i, a, 0, t, v, hn, h, hd, hs => by
    simp at h hn
    subst h
    rw [putFrom, putFrom_other r (i + 1) _ t (fun j h1 h2 => by rw [← hd]; exact tidy_ne ht (by omega) (by omega) (by omega))]
    rw [Nat.add_zero] at hd
    rw [hd]
    exact Act.put_get_same hs
  | u :: r, i, a, j + 1, t, v, hn, h, hd, hs => by
    simp at h hn
    rw [putFrom]
    refine putFrom_same ht r (i + 1) _ j t v (by omega) h (by rw [← hd]; congr 1; omega) ?_
    cases dstOf ops i <;> simpa [Act.put] using hs
theorem act_ext {a b : Act} (h1 : a.defers = b.defers) (h2 : ∀ t : Nat, a.tmps[t]? = b.tmps[t]?) : a = b := by
  obtain ⟨t1, d1⟩ := a
  obtain ⟨t2, d2⟩ := b
  simp only at h1 h2
  subst h1
  congr 1
  exact Array.ext_getElem? h2
theorem exists_list {n : Nat} {p : Nat → Value → Prop} (h : ∀ j, j < n → ∃ v, p j v) : ∃ vs : List Value, vs.length = n ∧ ∀ j v, vs[j]? = some v → p j v := by
  induction n with
  | zero => exact ⟨[], rfl, fun j v h => by simp at h⟩
  | succ n ih =>
    obtain ⟨vs, hl, hp⟩ := ih fun j hj => h j (by omega)
    obtain ⟨v, hv⟩ := h n (by omega)
    refine ⟨vs ++ [v], by simp [hl], fun j u hu => ?_⟩
    rcases Nat.lt_or_ge j n with hj | hj
    · rw [List.getElem?_append_left (by omega)] at hu
      exact hp j u hu
    · rw [List.getElem?_append_right (by omega)] at hu
      have hj0 : j = n := by
        rcases Nat.lt_or_ge (j - vs.length) 1 with h1 | h1
        · omega
        · rw [List.getElem?_eq_none (by simpa using h1)] at hu; cases hu
      subst hj0
      simp [hl] at hu
      rw [← hu]; exact hv
/-- the same, the slots written out -/
def putAll : List Tmp → List Value → Act → Act
  | d :: ds, v :: r, a => putAll ds r (a.put (some d) v)
  | _, _, a => a
theorem putAll_eq : ∀ (ds : List Tmp) (vs : List Value) (i : Nat) (a : Act), ds.length = vs.length → (∀ j d, ds[j]? = some d → dstOf ops (i + j) = some d) → putFrom ops i vs a = putAll ds vs a
  | [], [], _, _, _, _ => rfl
  | [], _ :: _, _, _, h, _ => by simp at h
  | _ :: _, [], _, _, h, _ => by simp at h
  | d :: ds, v :: r, i, a, h, hd => by
    have h0 : dstOf ops i = some d := hd 0 d rfl
    rw [putFrom, putAll, h0]
    exact putAll_eq ds r (i + 1) _ (by simpa using h) (fun j e he => by rw [← hd (j + 1) e (by simpa using he)]; congr 1; omega)
/-- THE RULE. -/
theorem wp_region_steps {id : Nat} {a0 : Act} {w0 : World} (S : Nat → Nat → Value → World → Prop) (J : Nat → World → Prop) (Keep : World → World → Prop) (Turn : Nat → World → World → Prop) (eff : List Nat) (hm : P.follows .mixedOrders = true) (ht : tidy ops = true) (hch : chain ops eff = true)
    (hsz : ((List.range ops.size).all fun i => (dstOf ops i).all fun t => decide (t < a0.tmps.size)) = true)
    (hkeep : ∀ k j v w w', Keep w w' → S k j v w → S k j v w') (hturn : ∀ k j v w w', Turn k w w' → S k j v w → S (k + 1) j v w') (hJ : J 0 w0.drew) (hstep : ∀ i, i < ops.size → Step P ops Q S J Keep Turn eff a0 i)
    (hfin : ∀ (vs : List Value) (w : World), vs.length = ops.size → J eff.length w → (∀ j v, vs[j]? = some v → S eff.length j v w) → Q .normal (putFrom ops 0 vs a0) w) : (Code.region id ops true).wp P Q a0 w0 := by
  have hsz' : ∀ i t, dstOf ops i = some t → t < a0.tmps.size := by
    intro i t h
    have hi : i < ops.size := by
      rcases Nat.lt_or_ge i ops.size with h1 | h1
      · exact h1
      · simp [dstOf, Array.getElem?_eq_none h1] at h
    simp only [List.all_eq_true, List.mem_range] at hsz
    have := hsz i hi
    rw [h] at this
    simpa using this
  refine wp_region_inv eff hm ht hch hsz' hkeep hturn hJ hstep ?_
  intro a w hJw hd hs hext hdone
  obtain ⟨vs, hl, hp⟩ := exists_list (n := ops.size) (p := fun j v => ∃ t, dstOf ops j = some t ∧ a.tmps[t]? = some v ∧ S eff.length j v w) (fun j hj => by
    obtain ⟨t, v, h1, h2, h3⟩ := hdone j hj
    exact ⟨v, t, h1, h2, h3⟩)
  have hae : a = putFrom ops 0 vs a0 := by
    refine act_ext (by rw [putFrom_defers]; exact hd) fun t => ?_
    by_cases h : ∃ j, j < ops.size ∧ dstOf ops j = some t
    · obtain ⟨j, hj, hdj⟩ := h
      have hv : vs[j]? = some (vs[j]'(by omega)) := List.getElem?_eq_getElem (by omega)
      obtain ⟨t', h1, h2, _⟩ := hp j _ hv
      rw [hdj] at h1
      injection h1 with h1
      subst h1
      rw [h2]
      exact (putFrom_same ht vs 0 a0 j t _ (by omega) hv (by simpa using hdj) (hsz' j t hdj)).symm
    · have hno : ∀ j, j < ops.size → dstOf ops j ≠ some t := fun j hj hd => h ⟨j, hj, hd⟩
      rw [hext t hno, putFrom_other vs 0 a0 t (fun j _ h2 => hno j (by omega))]
  rw [hae]
  exact hfin vs w hl hJw fun j v hv => by
    obtain ⟨_, _, _, h3⟩ := hp j v hv
    exact h3
/-- THE RULE, the slots written out. -/
theorem wp_region_all {id : Nat} {a0 : Act} {w0 : World} (S : Nat → Nat → Value → World → Prop) (J : Nat → World → Prop) (Keep : World → World → Prop) (Turn : Nat → World → World → Prop) (eff : List Nat) (ds : List Tmp) (hm : P.follows .mixedOrders = true) (ht : tidy ops = true) (hch : chain ops eff = true)
    (hsz : ((List.range ops.size).all fun i => (dstOf ops i).all fun t => decide (t < a0.tmps.size)) = true) (hds : (List.range ops.size).map (dstOf ops) = ds.map some)
    (hkeep : ∀ k j v w w', Keep w w' → S k j v w → S k j v w') (hturn : ∀ k j v w w', Turn k w w' → S k j v w → S (k + 1) j v w') (hJ : J 0 w0.drew) (hstep : ∀ i, i < ops.size → Step P ops Q S J Keep Turn eff a0 i)
    (hfin : ∀ (vs : List Value) (w : World), vs.length = ds.length → J eff.length w → (∀ j v, vs[j]? = some v → S eff.length j v w) → Q .normal (putAll ds vs a0) w) : (Code.region id ops true).wp P Q a0 w0 := by
  have hlen : ds.length = ops.size := by
    have := congrArg List.length hds
    simpa using this.symm
  refine wp_region_steps S J Keep Turn eff hm ht hch hsz hkeep hturn hJ hstep fun vs w hl hJw hS => ?_
  rw [putAll_eq ds vs 0 a0 (by omega) (fun j d hj => by
    have hj' : j < ds.length := by
      rcases Nat.lt_or_ge j ds.length with h | h
      · exact h
      · rw [List.getElem?_eq_none h] at hj; cases hj
    have h2 := congrArg (fun l => l[j]?) hds
    simp only [List.getElem?_map, List.getElem?_range (show j < ops.size by omega), Option.map_some, hj] at h2
    rw [Nat.zero_add]
    injection h2)]
  exact hfin vs w (by omega) hJw hS
/-- one operation's step: it leaves what is said of it, and keeps the rest -/
def OpStep (P : Program) (ops : Array Oper) (Q : Exit → Act → World → Prop) (S : Nat → Value → World → Prop) (Keep : World → World → Prop) (J : World → Prop) (i : Nat) (a : Act) (w : World) : Prop :=
  wpOp P ops Q i (fun a' w' => ∃ v, a' = a.put (dstOf ops i) v ∧ S i v w' ∧ Keep w w' ∧ J w') a w
theorem step_pure {S : Nat → Nat → Value → World → Prop} {J : Nat → World → Prop} {Keep : World → World → Prop} {Turn : Nat → World → World → Prop} {eff : List Nat} {a0 : Act} {i : Nat} (hno : (eff.contains i) = false)
    (h : ∀ k a w, J k w → Facts ops S k a0 a w i → OpStep P ops Q (S k) Keep (J k) i a w) : Step P ops Q S J Keep Turn eff a0 i := by
  have hne : ∀ m, m < eff.length → eff.getD m 0 ≠ i := by
    intro m hm he
    have hmem : i ∈ eff := by
      rw [← he]
      simp [List.getD, List.getElem?_eq_getElem hm]
    have : eff.contains i = true := by simpa using hmem
    rw [hno] at this
    cases this
  exact ⟨fun k _ a w hJ hf => h k a w hJ hf, fun k hk he => absurd he (hne k hk)⟩
theorem step_eff {S : Nat → Nat → Value → World → Prop} {J : Nat → World → Prop} {Keep : World → World → Prop} {Turn : Nat → World → World → Prop} {eff : List Nat} {a0 : Act} {i : Nat} (k : Nat) (hk : decide (k < eff.length) = true) (he : (eff.getD k 0 == i) = true) (hch : chain ops eff = true)
    (h : ∀ a w, J k w → Facts ops S k a0 a w i → OpStep P ops Q (S (k + 1)) (Turn k) (J (k + 1)) i a w) : Step P ops Q S J Keep Turn eff a0 i := by
  have hk' : k < eff.length := by simpa using hk
  have he' : eff.getD k 0 = i := by simpa using he
  refine ⟨fun _ hno => absurd he' (hno k hk'), fun m hm hme a w hJ hf => ?_⟩
  have := chain_inj hch hm hk' (hme.trans he'.symm)
  subst this
  exact h a w hJ hf
/-- the operation by the walk's own word -/
theorem op_wp {S : Nat → Value → World → Prop} {J : World → Prop} {Keep : World → World → Prop} {i : Nat} {o : Oper} {a : Act} {w : World} (ho : ops[i]? = some o) (hw : Region.wanted o (yielded ops a.tmps) = true)
    (h : o.wp P a w (fun a' w' => ∃ v, a' = a.put o.dst v ∧ S i v w' ∧ Keep w w' ∧ J w') Q) : OpStep P ops Q S Keep J i a w := by
  unfold OpStep wpOp
  simp only [ho, hw, if_true]
  left
  refine Oper.wp_mono ?_ h
  rintro a' w' ⟨v, hv, hr⟩
  exact ⟨v, by rw [hv]; simp [dstOf, ho], hr⟩
theorem op_value {S : Nat → Value → World → Prop} {J : World → Prop} {Keep : World → World → Prop} {i : Nat} {o : Oper} {a : Act} {w w' : World} {v : Value} (ho : ops[i]? = some o) (hw : Region.wanted o (yielded ops a.tmps) = true)
    (hrun : (execOp a.eval o).run P w = .ok (.value v) w') (hS : S i v w') (hk : Keep w w') (hJ : J w') :
    OpStep P ops Q S Keep J i a w := by
  unfold OpStep wpOp
  simp only [ho, hw, if_true]
  left
  unfold Oper.wp
  rw [hrun]
  exact ⟨v, by simp [dstOf, ho], hS, hk, hJ⟩
theorem op_skip {S : Nat → Value → World → Prop} {J : World → Prop} {Keep : World → World → Prop} {i : Nat} {o : Oper} {a : Act} {w : World} (ho : ops[i]? = some o) (hw : Region.wanted o (yielded ops a.tmps) = false)
    (hS : S i undef w) (hk : Keep w w) (hJ : J w) :
    OpStep P ops Q S Keep J i a w := by
  unfold OpStep wpOp
  simp only [ho, hw, Bool.false_eq_true, if_false]
  exact ⟨undef, by simp [dstOf, ho], hS, hk, hJ⟩
theorem op_call {S : Nat → Value → World → Prop} {J : World → Prop} {Keep : World → World → Prop} {i : Nat} {o : Oper} {a : Act} {w : World} {f : FuncId} {args : Array Value} (ho : ops[i]? = some o) (hw : Region.wanted o (yielded ops a.tmps) = true)
    (hrun : (execOp a.eval o).run P w = .ok (.enter f args) w) (hc : Calls P f args w fun e w' => ∃ v, e = .returned v ∧ S i v w' ∧ Keep w w' ∧ J w') :
    OpStep P ops Q S Keep J i a w := by
  unfold OpStep wpOp
  simp only [ho, hw, if_true]
  left
  unfold Oper.wp
  rw [hrun]
  refine hc.mono ?_
  rintro e w' ⟨v, rfl, hS, hk, hJ⟩
  exact ⟨v, by simp [dstOf, ho], hS, hk, hJ⟩
theorem Facts.get {S : Nat → Nat → Value → World → Prop} {k : Nat} {a0 a : Act} {w : World} {i : Nat} (h : Facts ops S k a0 a w i) (j : Nat) (t : Tmp) (hw : waits ops i j = true) (hd : dstOf ops j = some t) : ∃ v, a.tmps[t]? = some v ∧ S k j v w := by
  obtain ⟨t', v, h1, h2, h3⟩ := h.dep j hw
  rw [hd] at h1
  injection h1 with h1
  subst h1
  exact ⟨v, h2, h3⟩
theorem Facts.old {S : Nat → Nat → Value → World → Prop} {k : Nat} {a0 a : Act} {w : World} {i : Nat} (h : Facts ops S k a0 a w i) (t : Tmp) (hd : ((List.range ops.size).all fun j => dstOf ops j != some t) = true) : a.tmps[t]? = a0.tmps[t]? := by
  refine h.ext t fun j hj => ?_
  simp only [List.all_eq_true, List.mem_range, bne_iff_ne] at hd
  exact hd j hj
def eqv (V : Value) (v : Value) (_ : World) : Prop := v = V
theorem eval_tmp {a : Act} {t : Tmp} {V : Value} (h : a.tmps[t]? = some V) : a.eval (.tmp t) = V := by
  simp [Act.eval, h]
theorem wanted_none {o : Oper} {y : Nat → Option Bool} (h : o.guard = none) : Region.wanted o y = true := by simp [Region.wanted, h]
theorem wanted_some {o : Oper} {a : Act} {j : Nat} {t : Tmp} {b : Bool} (h : o.guard = some (j, b)) (hd : dstOf ops j = some t) (hv : a.tmps[t]? = some (.bool b)) : Region.wanted o (yielded ops a.tmps) = true := by
  unfold dstOf at hd
  simp [Region.wanted, h, yielded, hd, hv]
theorem wanted_not {o : Oper} {a : Act} {j : Nat} {t : Tmp} {b : Bool} (h : o.guard = some (j, !b)) (hd : dstOf ops j = some t) (hv : a.tmps[t]? = some (.bool b)) : Region.wanted o (yielded ops a.tmps) = false := by
  unfold dstOf at hd
  cases b <;> simp [Region.wanted, h, yielded, hd, hv]
theorem wanted_undef {o : Oper} {a : Act} {j : Nat} {t : Tmp} {b : Bool} (h : o.guard = some (j, b)) (hd : dstOf ops j = some t) (hv : a.tmps[t]? = some undef) : Region.wanted o (yielded ops a.tmps) = false := by
  unfold dstOf at hd
  simp [Region.wanted, h, yielded, hd, hv, undef]
theorem run_move {o : Oper} {a : Act} {w : World} {x : Operand} {V : Value} (ho : o.op = .move x ∨ o.op = .assign x) (hx : a.eval x = V) : (execOp a.eval o).run P w = .ok (.value V) w := by
  rcases ho with ho | ho <;> simp [execOp, ho, hx, Sem.run_pure]
theorem run_pick_t {o : Oper} {a : Act} {w : World} {c x y : Operand} {V : Value} (ho : o.op = .pick c x y) (hc : a.eval c = .bool true) (hx : a.eval x = V) : (execOp a.eval o).run P w = .ok (.value V) w := by
  simp [execOp, ho, hc, hx, asBool, Sem.run_pure]
theorem run_pick_f {o : Oper} {a : Act} {w : World} {c x y : Operand} {V : Value} (ho : o.op = .pick c x y) (hc : a.eval c = .bool false) (hy : a.eval y = V) : (execOp a.eval o).run P w = .ok (.value V) w := by
  simp [execOp, ho, hc, hy, asBool, Sem.run_pure]
theorem run_bin {o : Oper} {a : Act} {w : World} {b : BinOp} {t u : TypeId} {x y : Operand} {X Y V : Value} (ho : o.op = .binOp b t x y u) (hx : a.eval x = X) (hy : a.eval y = Y) (hg : (eqGuard b t x y X Y).run P w = .ok () w) (h : (binOp b t X Y).run P w = .ok V w) : (execOp a.eval o).run P w = .ok (.value V) w := by
  simp [execOp, ho, hx, hy, hg, h]
theorem run_un {o : Oper} {a : Act} {w : World} {b : UnOp} {t : TypeId} {x : Operand} {X V : Value} (ho : o.op = .unOp b t x) (hx : a.eval x = X) (h : (Op.unary b X).run P w = Result.ok V w) : (execOp a.eval o).run P w = .ok (.value V) w := by
  simp [execOp, ho, hx, h]
theorem run_extract {o : Oper} {a : Act} {w : World} {x : Operand} {k : Nat} {X V : Value} (ho : o.op = .extract x k) (hx : a.eval x = X) (h : (Instr.extract X k).run P w = Result.ok V w) : (execOp a.eval o).run P w = .ok (.value V) w := by
  simp [execOp, ho, hx, h]
theorem run_conv {o : Oper} {a : Act} {w : World} {t u : TypeId} {x : Operand} {X V : Value} (ho : o.op = .convert t u x) (hx : a.eval x = X) (h : (convert t u X).run P w = .ok V w) : (execOp a.eval o).run P w = .ok (.value V) w := by
  simp [execOp, ho, hx, h]
theorem run_call {o : Oper} {a : Act} {w : World} {f : FuncId} {xs : Array Operand} {ts : Array TypeId} {args : Array Value} (ho : o.op = .call { callee := .value (.func f), args := xs, argTypes := ts }) (hx : xs.map a.eval = args) (hf : (callFunc f args).run P w = .ok (.enter f args) w) : (execOp a.eval o).run P w = .ok (.enter f args) w := by
  have e : execOp a.eval o = callFunc f (#[] ++ xs.map a.eval ++ #[]) := by
    obtain ⟨_, op, _, _, _, _⟩ := o
    simp only at ho
    subst ho
    rfl
  rw [e, hx]
  simpa using hf
theorem args_one {a : Act} {x : Operand} {X : Value} (hx : a.eval x = X) : (#[x] : Array Operand).map a.eval = #[X] := by simp [hx]
theorem args_two {a : Act} {x y : Operand} {X Y : Value} (hx : a.eval x = X) (hy : a.eval y = Y) : (#[x, y] : Array Operand).map a.eval = #[X, Y] := by simp [hx, hy]
theorem args_none {a : Act} : (#[] : Array Operand).map a.eval = #[] := by simp
theorem keep_refl {B : Nat} (w : World) : RowKit.Below B w w := RowKit.Below.refl _ _
theorem cons_of {vs : List Value} {n : Nat} (h : vs.length = n + 1) : ∃ x r, vs = x :: r ∧ r.length = n := by
  cases vs with
  | nil => simp at h
  | cons x r => exact ⟨x, r, rfl, by simpa using h⟩
theorem nil_of {vs : List Value} (h : vs.length = 0) : vs = [] := List.eq_nil_of_length_eq_zero h
end
end Go.Proofs.Ytnhpkkmjicphgaa
