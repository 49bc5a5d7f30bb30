/- Words for memory, many cells at once: an element of a row, a block's part stored, a new block stored whole. Conditions: in each theorem. -/
import Derived.Test.YtikhhipgamllgaaWords
import Derived.Deep.MidRow
import Derived.Deep.WholeRow
import Derived.Laws.CopyOwn
namespace Go.Proofs.Ytikhhipgamllgaa
open Go.RowKit

/-! ### lists of elements, each of one size -/
theorem cat_len {α : Type} (f : α → List Value) (size : Nat) (hf : ∀ x, (f x).length = size) (l : List α) : (l.flatMap f).length = l.length * size := by
  induction l with
  | nil => simp
  | cons x r ih => simp only [List.flatMap_cons, List.length_append, hf, ih, List.length_cons, Nat.add_mul, Nat.one_mul]; omega
theorem cat_get {α : Type} (f : α → List Value) (size : Nat) (hf : ∀ x, (f x).length = size) : ∀ (l : List α) (k j : Nat) (x : α), l[k]? = some x → j < size → (l.flatMap f)[k * size + j]? = (f x)[j]?
  | [], k, j, x, h, _ => by simp at h
  | y :: r, 0, j, x, h, hj => by
    simp only [List.getElem?_cons_zero, Option.some.injEq] at h
    subst h
    rw [List.flatMap_cons, Nat.zero_mul, Nat.zero_add, List.getElem?_append_left (by rw [hf]; exact hj)]
  | y :: r, k + 1, j, x, h, hj => by
    rw [List.getElem?_cons_succ] at h
    have := cat_get f size hf r k j x h hj
    rw [List.flatMap_cons, List.getElem?_append_right (by rw [hf, Nat.add_mul]; omega), hf, ← this]
    congr 1
    rw [Nat.add_mul]; omega
theorem cat_take {α : Type} (f : α → List Value) (size : Nat) (hf : ∀ x, (f x).length = size) : ∀ (l : List α) (k : Nat), (l.take k).flatMap f = (l.flatMap f).take (k * size)
  | [], k => by simp
  | y :: r, 0 => by simp
  | y :: r, k + 1 => by
    have e : (k + 1) * size = size + k * size := by rw [Nat.add_mul]; omega
    rw [List.take_succ_cons, List.flatMap_cons, List.flatMap_cons, List.take_append, hf, cat_take f size hf r k, e, List.take_of_length_le (l := f y) (by rw [hf]; omega), Nat.add_sub_cancel_left]

/-- the cells vs laid over l from o on -/
def spl (l : List Value) (o : Nat) (vs : List Value) : List Value := l.take o ++ (vs ++ l.drop (o + vs.length))
theorem spl_len {l : List Value} {o : Nat} {vs : List Value} (h : o + vs.length ≤ l.length) : (spl l o vs).length = l.length := by
  unfold spl
  simp only [List.length_append, List.length_take, List.length_drop]
  omega
theorem spl_get {l : List Value} {o : Nat} {vs : List Value} (h : o + vs.length ≤ l.length) (i : Nat) : (spl l o vs)[i]? = if o ≤ i ∧ i < o + vs.length then vs[i - o]? else l[i]? := by
  unfold spl
  rw [List.getElem?_append, List.getElem?_append]
  simp only [List.length_take, Nat.min_eq_left (show o ≤ l.length by omega), List.getElem?_take, List.getElem?_drop]
  by_cases h1 : i < o
  · rw [if_pos h1, if_pos h1, if_neg (by omega)]
  · rw [if_neg h1]
    by_cases h2 : i < o + vs.length
    · rw [if_pos (by omega), if_pos (by omega)]
    · rw [if_neg (by omega), if_neg (by omega)]
      congr 1; omega
theorem spl_step {l : List Value} {o : Nat} {v : Value} {vs : List Value} (h : o + (vs.length + 1) ≤ l.length) : spl (l.set o v) (o + 1) vs = spl l o (v :: vs) := by
  apply List.ext_getElem?
  intro i
  rw [spl_get (by rw [List.length_set]; omega), spl_get (by simp only [List.length_cons]; omega)]
  simp only [List.length_cons]
  by_cases h1 : i < o
  · rw [if_neg (by omega), if_neg (by omega), List.getElem?_set_ne (by omega)]
  · by_cases h2 : i = o
    · subst h2
      rw [if_neg (by omega), if_pos (by omega), List.getElem?_set_self (by omega), Nat.sub_self]; rfl
    · by_cases h3 : i < o + 1 + vs.length
      · rw [if_pos (by omega), if_pos (by omega), show i - o = (i - (o + 1)) + 1 by omega]; rfl
      · rw [if_neg (by omega), if_neg (by omega), List.getElem?_set_ne (by omega)]
theorem spl_nil (l : List Value) (o : Nat) : spl l o [] = l := by simp [spl]
theorem cat_set {α : Type} (f : α → List Value) (size : Nat) (hf : ∀ x, (f x).length = size) : ∀ (l : List α) (k : Nat) (x : α), k < l.length → (l.set k x).flatMap f = spl (l.flatMap f) (k * size) (f x)
  | [], k, x, h => by simp at h
  | y :: r, 0, x, _ => by
    rw [List.set_cons_zero, List.flatMap_cons, List.flatMap_cons]
    unfold spl
    rw [Nat.zero_mul, List.take_zero, List.nil_append, Nat.zero_add, hf, List.drop_append, hf]
    rw [List.drop_of_length_le (by rw [hf]; exact Nat.le_refl _), Nat.sub_self, List.drop_zero, List.nil_append]
  | y :: r, k + 1, x, h => by
    rw [List.set_cons_succ, List.flatMap_cons, List.flatMap_cons, cat_set f size hf r k x (by simpa using h)]
    unfold spl
    have e : (k + 1) * size = size + k * size := by rw [Nat.add_mul]; omega
    rw [e, List.take_append, List.drop_append, hf, hf, List.take_of_length_le (l := f y) (by rw [hf]; omega), List.drop_of_length_le (l := f y) (by rw [hf]; omega)]
    rw [List.nil_append, List.append_assoc, Nat.add_sub_cancel_left, Nat.add_assoc, Nat.add_sub_cancel_left]

/-! ### many cells stored -/
section
variable {w w' : World} {g : Nat} {t : TypeId}
theorem size_setCells' (b : Nat) : ∀ (vs : List Value) (o : Nat) (w : World), (w.setCells b o vs).heap.size = w.heap.size
  | [], _, _ => rfl
  | v :: r, o, w => by rw [World.setCells, size_setCells' b r]; simp
theorem heap_setCells_ne (b : Nat) : ∀ (vs : List Value) (o : Nat) (w : World) (i : Nat), i ≠ b → (w.setCells b o vs).heap[i]? = w.heap[i]?
  | [], _, _, _, _ => rfl
  | v :: r, o, w, i, h => by rw [World.setCells, heap_setCells_ne b r (o + 1) _ i h, Below.heap_setCell w ⟨b, o, none⟩ v i h]
theorem rest_setCells (b : Nat) : ∀ (vs : List Value) (o : Nat) (w : World), (w.setCells b o vs).os = w.os ∧ (w.setCells b o vs).tape = w.tape ∧ (w.setCells b o vs).output = w.output
  | [], _, _ => ⟨rfl, rfl, rfl⟩
  | v :: r, o, w => by rw [World.setCells]; exact rest_setCells b r (o + 1) _
theorem grownBy_setCells (w : World) (b o : Nat) (vs : List Value) : w.grownBy (w.setCells b o vs) (some b) :=
  ⟨(rest_setCells b vs o w).1, (rest_setCells b vs o w).2.1, (rest_setCells b vs o w).2.2, by rw [size_setCells']; exact Nat.le_refl _, fun k _ hk => heap_setCells_ne b vs o w k (fun e => hk (by rw [e]))⟩
theorem Blk.setCells_ : ∀ (vs : List Value) (o : Nat) (w : World) (cs : Array Value), Blk w g t cs → o + vs.length ≤ cs.size → Blk (w.setCells g o vs) g t (spl cs.toList o vs).toArray
  | [], o, w, cs, h, _ => by rw [spl_nil]; exact h
  | v :: r, o, w, cs, h, hl => by
    rw [World.setCells]
    have := Blk.setCells_ r (o + 1) _ _ (h.set_ o v) (by simp only [Array.size_setIfInBounds, List.length_cons] at hl ⊢; omega)
    rw [Array.toList_setIfInBounds, spl_step (by simpa using hl)] at this
    exact this
theorem Blk.there {cs : Array Value} (h : Blk w g t cs) {o n : Nat} (hn : o + n ≤ cs.size) : w.there g o n := fun j hj => by
  refine ⟨?_, h.frozen _⟩
  rw [h.cell, Array.getElem?_eq_getElem (by omega)]; rfl
theorem Blk.range {cs : Array Value} (h : Blk w g t cs) (o : Nat) (vs : List Value) (hv : ∀ j v, vs[j]? = some v → cs[o + j]? = some v) : w.rangeAt g o vs := fun j v hj => by
  rw [h.cell]; exact hv j v hj
theorem oneCell_all {cells : Array Value} (h : ∀ v ∈ cells.toList, v.oneCell' = true) : cells.all (·.oneCell') = true :=
  Array.all_eq_true_iff_forall_mem.2 (fun v hv => h v (by simpa using hv))
end

/-! ### the operations -/
section
variable {P : Program} {w : World}
/-- a value of many cells into a block known whole -/
theorem wpList_store_blk {ops : Array Oper} {rest : List Oper} {op : Oper} {a : Act} {Q : Exit → Act → World → Prop} (hgd : op.guard = none) (ty : TypeId) (x y : Operand) (ho : op.op = .store ty x y)
    (g o : Nat) (cells : List Value) (hx : a.eval x = .pointer (some ⟨g, o, none⟩)) (hy : a.eval y = .agg cells.toArray) (t : TypeId) (cs : Array Value)
    (hb : Blk w g t cs) (hfit : o + cells.length ≤ cs.size) (hi : (P.info? ty).map (·.size) = some cells.length) (h1 : ∀ v ∈ cells, v.oneCell' = true)
    (h : ∀ w', Blk w' g t (spl cs.toList o cells).toArray → w.grownBy w' (some g) → w'.heap.size = w.heap.size → wpList P ops Q rest (a.put op.dst undef) w') : wpList P ops Q (op :: rest) a w :=
  wpList_store_mid hgd ty x y ho g o cells.toArray hx hy (hb.there (by simpa using hfit)) (by simpa using hi) (all_oneCell_toArray h1)
    (h _ (hb.setCells_ cells o w cs hfit) (grownBy_setCells w g o cells) (size_setCells' g cells o w))

/-- a variable of many cells is made -/
theorem wpList_alloc_any {ops : Array Oper} {rest : List Oper} {op : Oper} {a : Act} {Q : Exit → Act → World → Prop} (hgd : op.guard = none) (ty : TypeId) (ho : op.op = .alloc ty)
    (z : Array Value) (hz : (P.info? ty).map (fun i => i.zero) = some (some (.agg z)))
    (h : wpList P ops Q rest (a.put op.dst (.pointer (some ⟨w.heap.size, 0, none⟩))) (w.alloc (.cells z ty))) : wpList P ops Q (op :: rest) a w :=
  wpList_plain hgd fun _ hK => by
    have hzr : (zeroValue ty).run P w = .ok (.agg z) w := by
      cases hq : P.info? ty with
      | none => simp [hq] at hz
      | some i =>
        simp only [hq, Option.map_some, Option.some.injEq] at hz
        simp [zeroValue, typeInfo, hq, hz]
    unfold Oper.wp execOp
    simp only [ho, Instr.alloc, Sem.run_bind, hzr, Result.andThen_ok]
    exact hK _ _ h

/-- a value of many cells into the block that was made last -/
theorem wpList_store_last {ops : Array Oper} {rest : List Oper} {op : Oper} {a : Act} {Q : Exit → Act → World → Prop} (hgd : op.guard = none) (ty : TypeId) (x y : Operand) (ho : op.op = .store ty x y)
    (z : Array Value) (cells : List Value) (hx : a.eval x = .pointer (some ⟨w.heap.size, 0, none⟩)) (hy : a.eval y = .agg cells.toArray)
    (hi : (P.info? ty).map (·.size) = some cells.length) (hzs : z.size = cells.length) (h1 : ∀ v ∈ cells, v.oneCell' = true)
    (h : wpList P ops Q rest (a.put op.dst undef) (w.alloc (.cells cells.toArray ty))) : wpList P ops Q (op :: rest) a (w.alloc (.cells z ty)) :=
  wpList_plain hgd fun _ hK => by
    unfold Oper.wp execOp
    simp only [ho, hx, hy, Sem.run_bind, run_storeAt_new (P := P) w ty z cells.toArray (by simpa using hi) (by simpa using hzs) (all_oneCell_toArray h1), Result.andThen_ok]
    exact hK _ _ h
/-- the same, the world behind it told by what holds of it -/
theorem wpList_store_made {ops : Array Oper} {rest : List Oper} {op : Oper} {a : Act} {Q : Exit → Act → World → Prop} (hgd : op.guard = none) (ty : TypeId) (x y : Operand) (ho : op.op = .store ty x y)
    (z : Array Value) (cells : List Value) (hx : a.eval x = .pointer (some ⟨w.heap.size, 0, none⟩)) (hy : a.eval y = .agg cells.toArray)
    (hi : (P.info? ty).map (·.size) = some cells.length) (hzs : z.size = cells.length) (h1 : ∀ v ∈ cells, v.oneCell' = true)
    (h : ∀ w', Blk w' w.heap.size ty cells.toArray → w.grownBy w' none → w'.heap.size = w.heap.size + 1 → wpList P ops Q rest (a.put op.dst undef) w') : wpList P ops Q (op :: rest) a (w.alloc (.cells z ty)) :=
  wpList_store_last hgd ty x y ho z cells hx hy hi hzs h1 (h _ (Blk.new w ty _) (World.grownBy_alloc w _ none) (by simp))
theorem Blk.list {w : World} {g : Nat} {t : TypeId} {cs : List Value} (h : Blk w g t cs.toArray) {i : Nat} {v : Value} (hv : cs[i]? = some v) : w.cell? ⟨g, i, none⟩ = some v := by
  rw [h.cell]; simpa using hv
end

/-- many cells copied into a block known whole -/
theorem wpList_copy_blk {P : Program} {w : World} {ops : Array Oper} {rest : List Oper} {o : Oper} {a : Act} {Q : Exit → Act → World → Prop} (hgd : o.guard = none) (d s : Operand) (dT sT : TypeId)
    (ho : o.op = .call { callee := .builtin .copy, args := #[d, s], argTypes := #[dT, sT] }) (elem : TypeId) (hu : P.underlying dT = some (.slice elem)) (hsz : (P.info? elem).map (·.size) = some 1)
    (g off dLen dCap : Nat) (b i : Nat) (sLen sCap : Nat) (hd : a.eval d = .slice (some ⟨g, off, none⟩) dLen dCap) (hs : a.eval s = .slice (some ⟨b, i, none⟩) sLen sCap)
    (cur : List Value) (t : TypeId) (hg : Blk w g t cur.toArray) (cs : List Value) (hn : cs.length = Nat.min sLen dLen)
    (hsrc : w.rangeAt b i cs) (hfit : off + cs.length ≤ cur.length) (h1 : ∀ v ∈ cs, v.oneCell' = true)
    (h : ∀ w', Blk w' g t (spl cur off cs).toArray → w.grownBy w' (some g) → w'.heap.size = w.heap.size → wpList P ops Q rest (a.put o.dst (goInt cs.length)) w') : wpList P ops Q (o :: rest) a w :=
  wpList_copy_own hgd d s dT sT ho elem hu hsz g off dLen dCap ⟨b, i, none⟩ sLen sCap hd hs cur.toArray t hg cs hn (fun j v hj => by rw [Addr.add_mid]; exact hsrc j v hj) (by simpa using hfit) h1
    (h _ (setRow_heap w g _ _ t _ hg) ⟨rfl, rfl, rfl, by simp, fun k _ hk => setRow_other w g k _ (fun e => hk (by rw [e]))⟩ (by simp))

/-! ### elements of a row -/
section
variable {w w' : World} {B size : Nat} {A : Option Addr} {α : Type} {f : α → List Value} {l : List α}
theorem Reads.item (hf : ∀ x, (f x).length = size) (h0 : 0 < size) (h : Reads w B size A l.length (l.flatMap f)) {k : Nat} (hk : k < l.length) :
    ∃ b o, A = some ⟨b, o, none⟩ ∧ b < B ∧ ∀ k x, l[k]? = some x → w.rangeAt b (o + k * size) (f x) := by
  obtain ⟨ad, rfl, hb, hc⟩ := h.2 (by omega)
  obtain ⟨b, o, sp⟩ := ad
  have hlen := cat_len f size hf l
  have hpos : 0 < (l.flatMap f).length := by rw [hlen]; exact Nat.mul_pos (by omega) h0
  have h00 := hc 0 _ (List.getElem?_eq_getElem hpos)
  have hsp : sp = none := by
    cases sp with
    | none => rfl
    | some s =>
      exfalso
      have e : Addr.add ⟨b, o, some s⟩ 0 = ⟨b, o, some s⟩ := by simp [Addr.add]
      rw [e] at h00
      unfold World.cell? at h00
      split at h00 <;> simp at h00
  subst hsp
  refine ⟨b, o, rfl, hb, fun k x hx j v hj => ?_⟩
  have hjl : j < size := by rw [← hf x]; exact (List.getElem?_eq_some_iff.1 hj).1
  have h2 := cat_get f size hf l k j x hx hjl
  have h3 := hc (k * size + j) v (by rw [h2]; exact hj)
  rw [Addr.add_mid] at h3
  rw [Nat.add_assoc]; exact h3
end
theorem rangeAt_keep {w w' : World} {b o : Nat} {cs : List Value} (h : w.rangeAt b o cs) (hk : ∀ i, w'.cell? ⟨b, i, none⟩ = w.cell? ⟨b, i, none⟩) : w'.rangeAt b o cs := fun j v hj => (hk _).trans (h j v hj)
theorem rangeAt_below {w w' : World} {B b o : Nat} {cs : List Value} (h : w.rangeAt b o cs) (hb : Below B w w') (hlt : b < B) : w'.rangeAt b o cs := rangeAt_keep h fun _ => hb.cell hlt
theorem rangeAt_part {w : World} {b o : Nat} {cs : List Value} (h : w.rangeAt b o cs) (p : Nat) (vs : List Value) (hv : ∀ j v, vs[j]? = some v → cs[p + j]? = some v) : w.rangeAt b (o + p) vs := fun j v hj => by
  rw [Nat.add_assoc]; exact h _ v (hv j v hj)

theorem own_keep {w w' : World} {base : Nat} {e : TypeId} {size n : Nat} {v : Value} {xs : List Value} (h : w.ownsRow base e size v n xs) (hg : w.grownBy w' none) : w'.ownsRow base e size v n xs := by
  refine h.kept hg ?_
  cases hv : v.ownBlock with
  | none => exact .inl rfl
  | some g => exact .inr (fun e => by cases e)
theorem below_grown {B : Nat} {a w w' : World} (h : Below B a w) (hg : w.grownBy w' none) (hB : B ≤ w.heap.size) : Below B a w' := h.grown hg hB (fun k e => by cases e)

theorem own_base {w : World} {base base' : Nat} {e : TypeId} {size n : Nat} {v : Value} {xs : List Value} (h : w.ownsRow base e size v n xs) (hb : base' ≤ base) : w.ownsRow base' e size v n xs := by
  refine ⟨h.1, ?_⟩
  rcases h.2 with h1 | ⟨g, cap, cur, hv, hg, rest⟩
  · exact .inl h1
  · exact .inr ⟨g, cap, cur, hv, by omega, rest⟩
theorem below_box {w w' : World} {o : Obj} (h : Below (w.heap.size + 1) (w.alloc o) w') : Below w.heap.size w w' := ((Below.refl _ w).alloc (Nat.le_refl _) o).trans (h.mono (by omega))

theorem below_box' {w w' : World} {o : Obj} (h : Below (w.alloc o).heap.size (w.alloc o) w') : Below w.heap.size w w' := below_box (by simpa using h)

/-! ### an element of a row of one's own, stored -/
section
variable {w : World} {base : Nat} {e : TypeId} {size : Nat} {g n cap : Nat} {xs : List Value}
theorem own_stored (h : w.ownsRow base e size (.slice (some ⟨g, 0, none⟩) n cap) n xs) (o : Nat) (vs : List Value) (hfit : o + vs.length ≤ n * size) :
    (w.setCells g o vs).ownsRow base e size (.slice (some ⟨g, 0, none⟩) n cap) n (spl xs o vs) ∧ w.there g o vs.length := by
  rcases h.2 with ⟨h', _⟩ | ⟨g', cap', cur, h', hb, hg, hnc, hcm, hcs, htake⟩
  · simp at h'
  · simp only [Value.slice.injEq, Option.some.injEq, Addr.mk.injEq, and_true, true_and] at h'
    obtain ⟨rfl, rfl⟩ := h'
    have hle : n * size ≤ cap * size := Nat.mul_le_mul_right _ hnc
    have hB : Blk w g e cur := hg
    refine ⟨⟨by rw [spl_len (by rw [h.1]; exact hfit)]; exact h.1, .inr ⟨g, cap, _, rfl, hb, hB.setCells_ vs o w cur (by omega), hnc, hcm, ?_, ?_⟩⟩, hB.there (by rw [hcs]; omega)⟩
    · rw [List.size_toArray, spl_len (by show o + vs.length ≤ cur.size; rw [hcs]; exact Nat.le_trans hfit hle), Array.length_toList, hcs]
    · show ((spl cur.toList o vs)).take (n * size) = _
      apply List.ext_getElem?
      intro i
      rw [List.getElem?_take, spl_get (by show o + vs.length ≤ cur.size; rw [hcs]; exact Nat.le_trans hfit hle), spl_get (by rw [h.1]; exact hfit), ← htake, List.getElem?_take]
      by_cases h1 : i < n * size
      · rw [if_pos h1, if_pos h1]
      · rw [if_neg h1, if_neg h1, if_neg (by omega)]

variable {P : Program}
theorem wpList_store_own {ops : Array Oper} {rest : List Oper} {op : Oper} {a : Act} {Q : Exit → Act → World → Prop} (hgd : op.guard = none) (ty : TypeId) (x y : Operand) (ho : op.op = .store ty x y)
    (h : w.ownsRow base e size (.slice (some ⟨g, 0, none⟩) n cap) n xs) (o : Nat) (cells : List Value) (hx : a.eval x = .pointer (some ⟨g, o, none⟩)) (hy : a.eval y = .agg cells.toArray)
    (hfit : o + cells.length ≤ n * size) (hi : (P.info? ty).map (·.size) = some cells.length) (h1 : ∀ v ∈ cells, v.oneCell' = true)
    (hk : ∀ w', w'.ownsRow base e size (.slice (some ⟨g, 0, none⟩) n cap) n (spl xs o cells) → w.grownBy w' (some g) → w'.heap.size = w.heap.size → wpList P ops Q rest (a.put op.dst undef) w') : wpList P ops Q (op :: rest) a w :=
  wpList_store_mid hgd ty x y ho g o cells.toArray hx hy (by simpa using (own_stored h o cells hfit).2) (by simpa using hi) (all_oneCell_toArray h1)
    (hk _ (own_stored h o cells hfit).1 (grownBy_setCells w g o cells) (size_setCells' g cells o w))
theorem own_range (h : w.ownsRow base e size (.slice (some ⟨g, 0, none⟩) n cap) n xs) (o : Nat) (vs : List Value) (hv : ∀ j v, vs[j]? = some v → xs[o + j]? = some v) : w.rangeAt g o vs := fun j v hj => by
  have h1 := hv j v hj
  have h2 : o + j < n * size := by rw [← h.1]; exact (List.getElem?_eq_some_iff.1 h1).1
  rw [h.cellAt _ h2]; exact h1
end
end Go.Proofs.Ytikhhipgamllgaa
