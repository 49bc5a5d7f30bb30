/- (*Disk).Fail. Conditions: in each theorem. (*Disk).Clone. Conditions: in each theorem. -/
/- Printed by our own program (wip/rb/mk_ref.py, clone.tpl). The program's disk and the document's, alike: in plain terms, and side by side in memory. Conditions: in each theorem. -/
import Derived.Test.YtikhhipgamllgaaRefT
import Derived.Maps.RangeWalk
import Derived.Maps.Ext
namespace Go.Proofs.Ytikhhipgamllgaa
open Go.RowKit
/-- block b is the set of the numbers l -/
def BadM (w : World) (b : Nat) (l : List Int) : Prop := ∃ (n : Nat) (D : DataW Unit), n ≤ l.length ∧ w.ownsMap Try.prog 3 (plainElem Try.prog 3) b n D ∧ ∀ k : Int, Maps.has D (.int .i64 k) = l.contains k ∧ D.atKey (.int .i64 k) zero3L = .lit (.int .i64 (if l.contains k then 1 else 0))
section
variable {w w' : World} {b : Nat} {l : List Int}
theorem BadM.made (w : World) : BadM (w.alloc (.map #[] 0)) w.heap.size [] := ⟨0, .map [], Nat.le_refl _, World.ownsMap_made w _ _ _, fun _ => ⟨rfl, rfl⟩⟩
theorem BadM.lt (h : BadM w b l) : b < w.heap.size := by obtain ⟨n, D, _, h, _⟩ := h; exact h.lt
theorem BadM.only {F : Nat → Prop} (h : BadM w b l) (ho : OnlyF F w w') (hF : ¬ F b) : BadM w' b l := by
  obtain ⟨n, D, h1, h2, h3⟩ := h
  exact ⟨n, D, h1, ho.map h2 hF, h3⟩
theorem BadM.put (h : BadM w b l) (hc : l.length ≤ 100000) {k : Int} (hk : okI k) : ∃ w', (Instr.mapUpdate 135 (.map (some b)) (.int .i64 k) (.int .i64 1)).run Try.prog w = .ok () w' ∧ BadM w' b (l ++ [k]) ∧ w.grownBy w' (some b) := by
  obtain ⟨n, D, h1, h2, h3⟩ := h
  have hkl : keyOf Try.prog 3 (.int .i64 k) = some (.int .i64 k) := Maps.keyOf_int_mk Try.underlying3 hk
  obtain ⟨w', hr, ho, hg⟩ := h2.update lawI Try.underlying135 (by unfold maxLen; omega) hkl (plainElem_int Try.underlying3 (a := (1 : Int)) (WalkArith.wf_i64 (by omega)))
  refine ⟨w', hr, ⟨n + 1, _, by simp; omega, ho, fun j => ?_⟩, hg⟩
  by_cases e : j = k
  · subst e
    rw [Maps.atKey_put_same h2.isMap (lawI.key hkl), Maps.has_put_same h2.isMap (lawI.key hkl)]
    simp
  · have hne : (Lit.int IntKind.i64 j) ≠ Lit.int IntKind.i64 k := fun hh => e (by injection hh)
    rw [Maps.atKey_put_other hne, Maps.has_put_other hne, (h3 j).1, (h3 j).2]
    simp [e]
theorem BadM.at {F : Nat → Prop} (h : BadM w b l) (hF : F b) (hl : l.length ≤ 100000) : BadAt w F (.map (some b)) (some l) := by
  obtain ⟨n, D, h1, h2, h3⟩ := h
  exact ⟨b, n, D, rfl, hF, by omega, h2, h3⟩
end
theorem mk137 (b : Nat) (w : World) : (Instr.build 137 #[(0, .map (some b))]).run Try.prog w = .ok (.agg #[.map (some b), .int .i64 0]) w := by kernel_rfl
theorem info137 : (Try.prog.info? 137).map (·.size) = some 2 := by kernel_rfl
theorem one137 (b : Nat) : ∀ v ∈ [Value.map (some b), Value.int .i64 0], v.oneCell' = true := fun v hv => by
  rcases List.mem_cons.1 hv with rfl | hv
  · rfl
  · cases List.mem_singleton.1 hv; rfl
theorem st137 {W : World} {g b : Nat} {bv nx sv wv lv ep : Value} (h : Blk W g 139 #[bv, nx, sv, wv, lv, ep]) :
    ∃ w', (Instr.storeAt 137 (.pointer (some ⟨g, 0, none⟩)) (.agg #[.map (some b), .int .i64 0])).run Try.prog W = .ok () w' ∧ Blk w' g 139 #[.map (some b), .int .i64 0, sv, wv, lv, ep] ∧ W.grownBy w' (some g) ∧ w'.heap.size = W.heap.size := by
  refine ⟨_, run_storeAt_mid W g 0 137 #[.map (some b), .int .i64 0] (h.there (by simp)) info137 (all_oneCell_toArray (cs := [.map (some b), .int .i64 0]) (one137 b)), ?_, grownBy_setCells W g 0 _, size_setCells' g _ 0 W⟩
  exact h.setCells_ [.map (some b), .int .i64 0] 0 W _ (by simp)
section
variable {w w2 : World} {F : Nat → Prop} {g : Nat} {D D' : Dk} {bv sv wv lv bv' : Value}
/-- a disk past a change of its map and of its count -/
theorem DiskV.setBad (h : DiskV w F g D bv sv wv lv) (hO : OnlyF (fun k => k = g) w w2) (hb : Blk w2 g 139 #[bv', .int .i64 D'.nx, sv, wv, lv, .int .i64 D'.ep]) (G : Nat → Prop) (hG : ∀ k, F k → G k) (hl : ∀ k, G k → k < w2.heap.size)
    (hm : BadAt w2 G bv' D'.bad) (e1 : D'.safe = D.safe) (e2 : D'.wait = D.wait) (e3 : D'.log = D.log) : DiskV w2 G g D' bv' sv wv lv := by
  have keepR : ∀ {e : TypeId} {size n : Nat} {v : Value} {xs : List Value}, e ≠ 139 → RowF w F e size v n xs → RowF w2 G e size v n xs := fun he hr => ⟨hO.own hr.1 (fun k hk hh => by subst hh; exact own_blk_ne hr.1 h.blk he hk), fun k hk => hG k (hr.2 k hk)⟩
  exact ⟨hb, hG g h.own, hl, hm, by rw [e1]; exact keepR (by decide) h.safe, by rw [e2]; exact keepR (by decide) h.wait, by rw [e3]; exact keepR (by decide) h.log, fun e he => keepR (by decide) (h.tags e (by rw [← e3]; exact he))⟩
end
def Dk.fail (D : Dk) (l : List Int) : Dk := { D with bad := some l, nx := 0 }
set_option maxRecDepth 100000 in
set_option maxHeartbeats 4000000 in
theorem fail_any {w : World} {F : Nat → Prop} {g : Nat} {D : Dk} {bv sv wv lv : Value} (h : DiskV w F g D bv sv wv lv) (hs : 0 < D.safe.length) (A : Option Addr) (c : Nat) (l : List Int) (hl : l.length ≤ 50000) (hok : ∀ x ∈ l, okI x) (hr : ∀ W, OnlyF F w W → Reads W W.heap.size 1 A l.length (iz l)) :
    Calls Try.prog 54 #[.pointer (some ⟨g, 0, none⟩), .slice A l.length c] w fun o w' => o = .returned (.tuple #[]) ∧ Turned w F g (D.fail l) w' := by
  have CN := Lib.hid (none_any h hs)
  obtain ⟨b, hb⟩ : ∃ b, w.heap.size = b := ⟨_, rfl⟩
  obtain ⟨w2, hw2⟩ : ∃ w2, w.alloc (.map #[] 0) = w2 := ⟨_, rfl⟩
  have hb2 : Below w.heap.size w w2 := by rw [← hw2]; exact (Below.refl _ w).alloc (Nat.le_refl _) _
  have hm2 : BadM w2 b [] := by rw [← hw2, ← hb]; exact BadM.made w
  have hmk : (Instr.makeMap 135 none).run Try.prog w = .ok (.map (some b)) w2 := by rw [← hw2, ← hb]; rfl
  have h2 := h.below hb2
  obtain ⟨w3, hst, hb3, hg3, hs3⟩ := st137 (b := b) h2.blk
  have hO3 : OnlyF (fun k => k = g) w2 w3 := (OnlyF.refl _ w2).grown hg3 (fun k e _ => by cases e; rfl)
  have hgb : g ≠ b := by have := h.lt g h.own; omega
  have hm3 := hm2.only hO3 (fun e => hgb e.symm)
  obtain ⟨n, hnn⟩ : ∃ n, n = l.length := ⟨_, rfl⟩
  have HN := Lib.hid hnn
  have HOF3 : Hid (OnlyF F w w3) := Lib.hid (((OnlyF.of_below (F := F) hb2).trans hO3 (fun k _ e => by subst e; exact h.own)))
  have HBF : Hid (∀ k, F k → k < b) := Lib.hid (fun k hk => by rw [← hb]; exact h.lt k hk)
  have HB0 : Hid (w.heap.size = b) := Lib.hid hb
  have HLT3 : Hid (∀ k, (F k ∨ k = b) → k < w3.heap.size) := Lib.hid (fun k hk => by rw [hs3]; exact hk.elim (fun h' => Nat.lt_of_lt_of_le (h.lt k h') hb2.size) (fun h' => by subst h'; exact hm2.lt))
  have HH3 : Hid (∀ W, OnlyF (fun k => k = b) w3 W → BadM W b l → DiskV W (fun k => F k ∨ k = b) g (D.fail l) (.map (some b)) sv wv lv) := Lib.hid (fun W hW hm => by
    have keepR : ∀ {e : TypeId} {size n : Nat} {v : Value} {xs : List Value}, e ≠ 139 → RowF w2 F e size v n xs → RowF W (fun k => F k ∨ k = b) e size v n xs := fun he hq => by
      have h4 : RowF w3 F _ _ _ _ _ := ⟨hO3.own hq.1 (fun k hk hh => by subst hh; exact own_blk_ne hq.1 h2.blk he hk), hq.2⟩
      exact (h4.keep hW (fun k hk e => by have := h.lt k hk; omega)).mono (fun k hk => .inl hk)
    exact ⟨hW.blk hb3 hgb, .inl h.own, fun k hk => Nat.lt_of_lt_of_le (by rw [hs3]; exact hk.elim (fun h' => Nat.lt_of_lt_of_le (h.lt k h') hb2.size) (fun h' => by subst h'; exact hm2.lt)) hW.size, hm.at (.inr rfl) (by omega), keepR (by decide) h2.safe, keepR (by decide) h2.wait, keepR (by decide) h2.log, fun e he => keepR (by decide) (h2.tags e he)⟩)
  have HM3 := Lib.hid hm3
  have HC : Hid (∀ W, OnlyF (fun k => k = b) w3 W → W.cell? ⟨g, 0, none⟩ = some (.map (some b))) := Lib.hid (fun W hW => (hW.blk hb3 hgb).cell 0)
  have HST := Lib.hid hst
  have HR := Lib.hid hr
  have HOK := Lib.hid hok
  have HL : Hid (n ≤ 50000) := Lib.hid (by rw [hnn]; exact hl)
  rw [← hnn]
  clear h h2 hb2 hm2 hb3 hg3 hs3 hO3 hm3 hst hr hok hl hw2 hnn hs
  go_enter Try.func54, Try.ntmps54
  go_wp2_with fail
  refine CN.out.mono ?_
  rintro o w' ⟨rfl, rfl⟩
  go_wp2_with (first
    | (with_reducible show wpList _ _ _ (Oper.mk _ (Op.build 137 _) _ _ _ _ :: _) _ _; go_must (refine wpList_run rfl _ _ (run_build1 (X := .map (some b)) rfl rfl (mk137 b _)) ?_))
    | (with_reducible show wpList _ _ _ (Oper.mk none (Op.store 137 _ _) _ _ _ _ :: _) _ _; go_must (refine wpList_done rfl w3 (Ph.run_store (X := .pointer (some ⟨g, 0, none⟩)) (Y := .agg #[.map (some b), .int .i64 0]) rfl rfl rfl HST.out) ?_)))
  clear hmk
  go_loopw [15] (fun i wr => ∃ k : Nat, k ≤ n ∧ i = .int .i64 k ∧ Hid (BadM wr b (l.take k)) ∧ Hid (OnlyF (fun q => q = b) w3 wr)) (fun i _ => n - (intOf i).toNat)
  case atStart => exact ⟨0, by omega, rfl, HM3, Lib.hid (OnlyF.refl _ _)⟩
  case round =>
    obtain ⟨k, hk, rfl, HM, HO⟩ := hrel
    by_cases hlt : k < n
    · obtain ⟨x, hx⟩ : ∃ x, l[k]? = some x := ⟨_, List.getElem?_eq_getElem (by rw [← HN.out]; exact hlt)⟩
      have HOW : Hid (OnlyF F w' wr) := Lib.hid (HOF3.out.trans HO.out (fun q hq e => by have := HB0.out; omega))
      have hr2 := HR.out wr HOW.out
      rw [iz_cat] at hr2
      obtain ⟨bb, o, rfl, hbb, hit⟩ := hr2.item (size := 1) (f := fun i => [Value.int .i64 i]) (fun _ => rfl) (by omega) (k := k) (by rw [← HN.out]; exact hlt)
      have hc : wr.cell? ⟨bb, o + k, none⟩ = some (.int .i64 x) := by
        have := hit k x hx 0 _ rfl
        simpa using this
      have hc0 := HC.out wr HO.out
      obtain ⟨w5, hup, hm5, hg5⟩ := HM.out.put (k := x) (by rw [List.length_take]; have := HL.out; omega) (HOK.out x (List.mem_of_getElem? hx))
      have HTK : Hid (l.take (k + 1) = l.take k ++ [x]) := Lib.hid (by rw [List.take_add_one, hx]; rfl)
      have HUP := Lib.hid hup
      have HM5 := Lib.hid hm5
      have HO5 : Hid (OnlyF (fun q => q = b) w3 w5) := Lib.hid (HO.out.grown hg5 (fun q e _ => by cases e; rfl))
      have hl1 : (k : Int) < (n : Int) := by omega
      have hn5 := HL.out
      clear hx hr2 hbb hit hup hm5 hg5
      go_wp2_with (with_reducible show wpList _ _ _ (Oper.mk none (Op.mapUpdate _ _ _ _) _ _ _ _ :: _) _ _; go_must (refine wpList_done rfl w5 (run_mapUpdate (M := .map (some b)) (X := .int .i64 x) (V := .int .i64 1) rfl rfl rfl rfl HUP.out) ?_))
      exact ⟨⟨k + 1, by omega, by go_num, Lib.hid (by rw [HTK.out]; exact HM5.out), HO5⟩, by simp [intOf]; omega⟩
    · have hkn : k = n := by omega
      subst hkn
      have hm := HM.out
      rw [List.take_of_length_le (by rw [← HN.out]; exact Nat.le_refl _)] at hm
      have hD := HH3.out wr HO.out hm
      have HD := Lib.hid hD
      clear hm hD
      go_wp2_with fail
      go_end0
      have hOW : OnlyF F w' wr := HOF3.out.trans HO.out (fun q hq e => by have := HB0.out; omega)
      exact ⟨rfl, _, ⟨_, _, _, _, HD.out⟩, fun q hq => hq.elim .inl (fun e => .inr ⟨by have := HB0.out; omega, HD.out.lt q (.inr e)⟩), hOW⟩
end Go.Proofs.Ytikhhipgamllgaa
namespace Go.Proofs.Ytikhhipgamllgaa
open Go.RowKit Ph
set_option linter.unusedVariables false
theorem cf56 (args : Array Value) (w : World) : (callFunc 56 args).run Try.prog w = .ok (.enter 56 args) w := by kernel_rfl
theorem cf47 (args : Array Value) (w : World) : (callFunc 47 args).run Try.prog w = .ok (.enter 47 args) w := by kernel_rfl
theorem cf59 (args : Array Value) (w : World) : (callFunc 59 args).run Try.prog w = .ok (.enter 59 args) w := by kernel_rfl
theorem run_box {P : Program} {o : Oper} {a : Act} {w : World} {t : TypeId} {x : Operand} {cs : Array Value} (ho : o.op = .box t x) (hx : a.eval x = .agg cs) : (execOp a.eval o).run P w = .ok (.value (.pointer (some ⟨w.heap.size, 0, none⟩))) (w.alloc (.cells cs t)) := by
  unfold execOp
  simp only [ho, hx, Sem.run_bind, Instr.box, newVar, newRow, run_newObj_alloc, Sem.run_pure, Result.andThen_ok, Value.cells]
theorem mkD4 (A1 A2 A3 : Option Addr) (n1 c1 n2 c2 n3 c3 : Nat) (e : Int) (w : World) : (Instr.build 139 #[(1, .slice A1 n1 c1), (2, .slice A2 n2 c2), (3, .slice A3 n3 c3), (4, .int .i64 e)]).run Try.prog w = .ok (.agg #[.map none, .int .i64 0, .slice A1 n1 c1, .slice A2 n2 c2, .slice A3 n3 c3, .int .i64 e]) w := by kernel_rfl
theorem LogRow.base {w : World} {base base' : Nat} {es fs : List Ev} {k n : Nat} {v : Value} (h : LogRow w base es k v n fs) (hb : base' ≤ base) : LogRow w base' es k v n fs :=
  ⟨h.len, h.sig, h.rest, own_base h.row hb, fun j e hj he => own_base (h.own j e hj he) hb⟩
theorem LogRow.below {w w' : World} {base : Nat} {es fs : List Ev} {k n : Nat} {v : Value} (h : LogRow w base es k v n fs) (hb : Below w.heap.size w w') : LogRow w' base es k v n fs :=
  ⟨h.len, h.sig, h.rest, own_below h.row hb, fun j e hj he => own_below (h.own j e hj he) hb⟩
/-- what a clone's rows are -/
structure CloneB (w : World) (B : Nat) (D : Dk) (sv wv lv : Value) : Prop where
  safe : w.ownsRow B 66 32 sv D.safe.length (D.safe.flatMap cellsS)
  wait : w.ownsRow B 108 36 wv D.wait.length (D.wait.flatMap cellsW)
  log : ∃ fs, LogRow w B D.log D.log.length lv D.log.length fs
theorem CloneB.below {w w' : World} {B : Nat} {D : Dk} {sv wv lv : Value} (h : CloneB w B D sv wv lv) (hb : Below w.heap.size w w') : CloneB w' B D sv wv lv := by
  obtain ⟨h1, h2, fs, h3⟩ := h
  exact ⟨own_below h1 hb, own_below h2 hb, fs, h3.below hb⟩
theorem keep_logrow (B : Nat) (D : Dk) : Keeps (fun W W' => Below W.heap.size W W') fun v w => ∃ fs, LogRow w B D.log D.log.length v D.log.length fs := fun _ _ _ hb ⟨fs, h⟩ => ⟨fs, h.below hb⟩
theorem keep_clone (B : Nat) (D : Dk) : Keeps (fun W W' => Below W.heap.size W W') fun v w => ∃ sv wv lv, v = .agg #[.map none, .int .i64 0, sv, wv, lv, .int .i64 D.ep] ∧ CloneB w B D sv wv lv := fun _ _ _ hb ⟨a, b, c, e, h⟩ => ⟨a, b, c, e, h.below hb⟩
theorem keep_clone_at (B : Nat) (D : Dk) : Keeps (fun W W' => Below W.heap.size W W') fun v w => ∃ q sv wv lv, v = .pointer (some ⟨q, 0, none⟩) ∧ B ≤ q ∧ Blk w q 139 #[.map none, .int .i64 0, sv, wv, lv, .int .i64 D.ep] ∧ CloneB w B D sv wv lv := fun _ _ _ hb ⟨q, a, b, c, e, h0, hk, h⟩ => ⟨q, a, b, c, e, h0, hk.below hb hk.lt, h.below hb⟩
def clA0 (g B : Nat) (D : Dk) : Lvs :=
  [eqv (.pointer (some ⟨g, 0, none⟩)),
   fun v w => w.ownsRow B 66 32 v D.safe.length (D.safe.flatMap cellsS),
   eqv (.pointer (some ⟨g, 0, none⟩)),
   fun v w => w.ownsRow B 108 36 v D.wait.length (D.wait.flatMap cellsW),
   eqv (.pointer (some ⟨g, 0, none⟩)),
   fun v w => ∃ fs, LogRow w B D.log D.log.length v D.log.length fs,
   eqv (.pointer (some ⟨g, 0, none⟩)),
   eqv (.pointer (some ⟨g, 0, none⟩)),
   eqv (.pointer (some ⟨g, 5, none⟩)),
   eqv (.int .i64 D.ep),
   fun v w => ∃ sv wv lv, v = .agg #[.map none, .int .i64 0, sv, wv, lv, .int .i64 D.ep] ∧ CloneB w B D sv wv lv,
   fun v w => ∃ q sv wv lv, v = .pointer (some ⟨q, 0, none⟩) ∧ B ≤ q ∧ Blk w q 139 #[.map none, .int .i64 0, sv, wv, lv, .int .i64 D.ep] ∧ CloneB w B D sv wv lv,
   fun v w => ∃ q sv wv lv, v = .pointer (some ⟨q, 0, none⟩) ∧ B ≤ q ∧ Blk w q 139 #[.map none, .int .i64 0, sv, wv, lv, .int .i64 D.ep] ∧ CloneB w B D sv wv lv]
theorem clA_keep (g B : Nat) (D : Dk) : ∀ L ∈ [clA0 g B D], ∀ q ∈ L, Keeps (fun W W' => Below W.heap.size W W') q := by
  simp only [clA0, List.forall_mem_cons]
  refine ⟨?_, by simp⟩
  repeat (first | refine ⟨keep_eqv _ _, ?_⟩ | refine ⟨keep_own _ _ _ _ _, ?_⟩ | refine ⟨keep_logrow _ _, ?_⟩ | refine ⟨keep_clone _ _, ?_⟩ | refine ⟨keep_clone_at _ _, ?_⟩)
  simp
def GotClone (w : World) (D : Dk) (o : Ending) (w' : World) : Prop := ∃ q fs, o = .returned (.pointer (some ⟨q, 0, none⟩)) ∧ fs.map sigE = D.log.map sigE ∧ DiskAt w' (fun k => w.heap.size ≤ k ∧ k < w'.heap.size) q { D with log := fs } ∧ Below w.heap.size w w'
theorem st135 {W : World} {g i : Nat} {u : Value} {p : Option Nat} (h : W.cell? ⟨g, i, none⟩ = some u) (hf : W.frozen? ⟨g, i, none⟩ = false) : (Instr.storeAt 135 (.pointer (some ⟨g, i, none⟩)) (.map p)).run Try.prog W = .ok () (W.setCell ⟨g, i, none⟩ (.map p)) := by go_simp
theorem neq_map_none (W : World) : (binOp .neq 135 (.map none) (.map none)).run Try.prog W = .ok (.bool false) W := by kernel_rfl
theorem neq_map_some (b : Nat) (W : World) : (binOp .neq 135 (.map (some b)) (.map none)).run Try.prog W = .ok (.bool true) W := by kernel_rfl
/-- a new disk's rows: its own -/
theorem CloneB.disk {w w1 : World} {B q : Nat} {D : Dk} {sv wv lv : Value} {fs : List Ev} (h1 : w.ownsRow B 66 32 sv D.safe.length (D.safe.flatMap cellsS)) (h2 : w.ownsRow B 108 36 wv D.wait.length (D.wait.flatMap cellsW)) (h3 : LogRow w B D.log D.log.length lv D.log.length fs)
    (hk : Blk w q 139 #[.map none, .int .i64 0, sv, wv, lv, .int .i64 D.ep]) (hq : B ≤ q) : DiskV w (fun k => B ≤ k ∧ k < w.heap.size) q { D with log := fs, bad := none, nx := 0 } (.map none) sv wv lv :=
  ⟨hk, ⟨hq, hk.lt⟩, fun k hk => hk.2, rfl, ⟨own_base h1 (Nat.zero_le _), fun k hk => h1.lt k hk⟩, ⟨own_base h2 (Nat.zero_le _), fun k hk => h2.lt k hk⟩, ⟨by rw [h3.len]; exact own_base h3.row (Nat.zero_le _), fun k hk => h3.row.lt k hk⟩,
    fun e he => by
      obtain ⟨j, hj⟩ := List.getElem?_of_mem he
      have := h3.own j e (by rw [← h3.len]; exact (List.getElem?_eq_some_iff.1 hj).1) hj
      exact ⟨own_base this (Nat.zero_le _), fun k hk => this.lt k hk⟩⟩
set_option maxRecDepth 100000 in
set_option maxHeartbeats 8000000 in
theorem clone_any {w : World} {F : Nat → Prop} {g : Nat} {D : Dk} {bv sv wv lv : Value} (h : DiskV w F g D bv sv wv lv) (hs : 0 < D.safe.length) (hsl : D.safe.length ≤ 1000) (hw : D.wait.length ≤ 1000) (hl : D.log.length ≤ 1000) (ht : ∀ e ∈ D.log, e.tags.length ≤ 1000) :
    Calls Try.prog 53 #[.pointer (some ⟨g, 0, none⟩)] w (GotClone w D) := by
  have CN := Lib.hid (none_any h hs)
  have HD := Lib.hid h
  have HCA : Hid (∀ W, Below w.heap.size w W → Calls Try.prog 56 #[.pointer (some ⟨g, 0, none⟩)] W (GotRow W 66 32 D.safe.length (D.safe.flatMap cellsS))) := Lib.hid (fun W hW => safe_any (h.below hW) hs hsl)
  have HCW : Hid (∀ W, Below w.heap.size w W → Calls Try.prog 47 #[.pointer (some ⟨g, 0, none⟩)] W (GotRow W 108 36 D.wait.length (D.wait.flatMap cellsW))) := Lib.hid (fun W hW => waiting_any (h.below hW) hs hw)
  have HCL : Hid (∀ W, Below w.heap.size w W → Calls Try.prog 59 #[.pointer (some ⟨g, 0, none⟩)] W (GotLog W D.log)) := Lib.hid (fun W hW => log_any (h.below hW) hs hl ht)
  clear h hs hsl hw hl ht
  go_enter Try.func53, Try.ntmps53
  go_wp2_with fail
  refine CN.out.mono ?_
  rintro o w' ⟨rfl, e⟩
  obtain rfl := e.symm
  go_wp2_with fail
  refine Ph.wp_region_all (ph [clA0 g w.heap.size D]) (fun k _ W => match k with | 0 => Below w.heap.size w W | _ => False) (fun W W' => Below W.heap.size W W') (fun _ _ _ => True) [] [some 7, some 8, some 9, some 10, some 11, some 12, some 13, some 14, some 15, some 16, some 17, some 18, some 3] mixedP (by kernel_rfl) (by kernel_rfl) (by kernel_rfl) (by kernel_rfl) (ph_keep (clA_keep g w.heap.size D)) (fun k j v W W' _ hs => ph_turn (Ls := [clA0 g w.heap.size D]) trivial k j v W W' hs) (Below.refl _ _).drew ?steps ?fin
  case steps =>
    refine all_lt 13 ?_
    simp only [AllLt]
    refine ⟨?_, ?_, ?_, ?_, ?_, ?_, ?_, ?_, ?_, ?_, ?_, ?_, ?_, trivial⟩
    · refine step_pure (by kernel_rfl) fun k a W hJ hf => ?_
      rcases k with _ | k
      · have h0 : a.tmps[0]? = some (.pointer (some ⟨g, 0, none⟩)) := hf.old 0 (by kernel_rfl)
        apply op_value
        case ho => rfl
        case hw => exact (wanted_none rfl)
        case hrun => exact run_move (.inl rfl) (eval_tmp h0)
        case hS => exact rfl
        case hk => exact keep_refl _
        case hJ => exact hJ
      · exact hJ.elim
    · refine step_pure (by kernel_rfl) fun k a W hJ hf => ?_
      rcases k with _ | k
      · obtain ⟨v7, h7, rfl⟩ := hf.get 0 7 (by kernel_rfl) (by kernel_rfl)
        refine op_call rfl (wanted_none rfl) (run_call rfl (args_one (eval_tmp h7)) (cf56 _ _)) ?_
        refine (HCA.out W hJ).mono ?_
        rintro e W' ⟨v, rfl, ho, hb⟩
        exact ⟨_, rfl, own_base ho hJ.size, hb, hJ.trans (hb.mono hJ.size)⟩
      · exact hJ.elim
    · refine step_pure (by kernel_rfl) fun k a W hJ hf => ?_
      rcases k with _ | k
      · have h0 : a.tmps[0]? = some (.pointer (some ⟨g, 0, none⟩)) := hf.old 0 (by kernel_rfl)
        apply op_value
        case ho => rfl
        case hw => exact (wanted_none rfl)
        case hrun => exact run_move (.inl rfl) (eval_tmp h0)
        case hS => exact rfl
        case hk => exact keep_refl _
        case hJ => exact hJ
      · exact hJ.elim
    · refine step_pure (by kernel_rfl) fun k a W hJ hf => ?_
      rcases k with _ | k
      · obtain ⟨v9, h9, rfl⟩ := hf.get 2 9 (by kernel_rfl) (by kernel_rfl)
        refine op_call rfl (wanted_none rfl) (run_call rfl (args_one (eval_tmp h9)) (cf47 _ _)) ?_
        refine (HCW.out W hJ).mono ?_
        rintro e W' ⟨v, rfl, ho, hb⟩
        exact ⟨_, rfl, own_base ho hJ.size, hb, hJ.trans (hb.mono hJ.size)⟩
      · exact hJ.elim
    · refine step_pure (by kernel_rfl) fun k a W hJ hf => ?_
      rcases k with _ | k
      · have h0 : a.tmps[0]? = some (.pointer (some ⟨g, 0, none⟩)) := hf.old 0 (by kernel_rfl)
        apply op_value
        case ho => rfl
        case hw => exact (wanted_none rfl)
        case hrun => exact run_move (.inl rfl) (eval_tmp h0)
        case hS => exact rfl
        case hk => exact keep_refl _
        case hJ => exact hJ
      · exact hJ.elim
    · refine step_pure (by kernel_rfl) fun k a W hJ hf => ?_
      rcases k with _ | k
      · obtain ⟨v11, h11, rfl⟩ := hf.get 4 11 (by kernel_rfl) (by kernel_rfl)
        refine op_call rfl (wanted_none rfl) (run_call rfl (args_one (eval_tmp h11)) (cf59 _ _)) ?_
        refine (HCL.out W hJ).mono ?_
        rintro e W' ⟨v, fs, rfl, ho, hb⟩
        exact ⟨_, rfl, ⟨fs, ho.base hJ.size⟩, hb, hJ.trans (hb.mono hJ.size)⟩
      · exact hJ.elim
    · refine step_pure (by kernel_rfl) fun k a W hJ hf => ?_
      rcases k with _ | k
      · have h0 : a.tmps[0]? = some (.pointer (some ⟨g, 0, none⟩)) := hf.old 0 (by kernel_rfl)
        apply op_value
        case ho => rfl
        case hw => exact (wanted_none rfl)
        case hrun => exact run_move (.inl rfl) (eval_tmp h0)
        case hS => exact rfl
        case hk => exact keep_refl _
        case hJ => exact hJ
      · exact hJ.elim
    · refine step_pure (by kernel_rfl) fun k a W hJ hf => ?_
      rcases k with _ | k
      · obtain ⟨v13, h13, rfl⟩ := hf.get 6 13 (by kernel_rfl) (by kernel_rfl)
        apply op_value
        case ho => rfl
        case hw => exact (wanted_none rfl)
        case hrun => exact run_nilCheck rfl (eval_tmp h13)
        case hS => exact rfl
        case hk => exact keep_refl _
        case hJ => exact hJ
      · exact hJ.elim
    · refine step_pure (by kernel_rfl) fun k a W hJ hf => ?_
      rcases k with _ | k
      · obtain ⟨v14, h14, rfl⟩ := hf.get 7 14 (by kernel_rfl) (by kernel_rfl)
        apply op_value
        case ho => rfl
        case hw => exact (wanted_none rfl)
        case hrun => exact run_fieldAddr rfl (eval_tmp h14) (V := (.pointer (some ⟨g, 5, none⟩))) (by go_simp)
        case hS => exact rfl
        case hk => exact keep_refl _
        case hJ => exact hJ
      · exact hJ.elim
    · refine step_pure (by kernel_rfl) fun k a W hJ hf => ?_
      rcases k with _ | k
      · obtain ⟨v15, h15, rfl⟩ := hf.get 8 15 (by kernel_rfl) (by kernel_rfl)
        apply op_value
        case ho => rfl
        case hw => exact (wanted_none rfl)
        case hrun => exact run_load rfl (eval_tmp h15) (ld3 ((HD.out.below hJ).blk.cell 5))
        case hS => exact rfl
        case hk => exact keep_refl _
        case hJ => exact hJ
      · exact hJ.elim
    · refine step_pure (by kernel_rfl) fun k a W hJ hf => ?_
      rcases k with _ | k
      · obtain ⟨v8, h8, o8⟩ := hf.get 1 8 (by kernel_rfl) (by kernel_rfl)
        obtain ⟨v10, h10, o10⟩ := hf.get 3 10 (by kernel_rfl) (by kernel_rfl)
        obtain ⟨v12, h12, fs12, o12⟩ := hf.get 5 12 (by kernel_rfl) (by kernel_rfl)
        obtain ⟨v16, h16, rfl⟩ := hf.get 9 16 (by kernel_rfl) (by kernel_rfl)
        obtain ⟨A8, c8, rfl, _⟩ := own_slice o8
        obtain ⟨A10, c10, rfl, _⟩ := own_slice o10
        obtain ⟨A12, c12, rfl, _⟩ := own_slice o12.row
        exact op_value rfl (wanted_none rfl) (Ph.run_build rfl (vs := #[(1, .slice A8 D.safe.length c8), (2, .slice A10 D.wait.length c10), (3, .slice A12 D.log.length c12), (4, .int .i64 D.ep)]) (by simp [eval_tmp h8, eval_tmp h10, eval_tmp h12, eval_tmp h16]) (mkD4 A8 A10 A12 D.safe.length c8 D.wait.length c10 D.log.length c12 D.ep W)) ⟨_, _, _, rfl, ⟨o8, o10, fs12, o12⟩⟩ (keep_refl _) hJ
      · exact hJ.elim
    · refine step_pure (by kernel_rfl) fun k a W hJ hf => ?_
      rcases k with _ | k
      · obtain ⟨v17, h17, s17, w17, l17, rfl, c17⟩ := hf.get 10 17 (by kernel_rfl) (by kernel_rfl)
        have hbw : Below W.heap.size W (W.alloc (.cells #[.map none, .int .i64 0, s17, w17, l17, .int .i64 D.ep] 139)) := (Below.refl _ W).alloc (Nat.le_refl _) _
        exact op_value rfl (wanted_none rfl) (run_box rfl (eval_tmp h17)) ⟨W.heap.size, s17, w17, l17, rfl, hJ.size, Blk.new W 139 _, c17.below hbw⟩ hbw (hJ.alloc hJ.size _)
      · exact hJ.elim
    · refine step_pure (by kernel_rfl) fun k a W hJ hf => ?_
      rcases k with _ | k
      · obtain ⟨v18, h18, q18, s18, w18, l18, rfl, g18, k18, c18⟩ := hf.get 11 18 (by kernel_rfl) (by kernel_rfl)
        exact op_value rfl (wanted_none rfl) (run_move (.inr rfl) (eval_tmp h18)) ⟨q18, s18, w18, l18, rfl, g18, k18, c18⟩ (keep_refl _) hJ
      · exact hJ.elim
  case fin =>
    intro vs w3 hl hJ hS
    have hl0 : vs.length = 13 := hl
    have h12 := fun v hv => hS 12 v hv
    obtain ⟨y0, r0, rfl, hl1⟩ := cons_of hl0
    obtain ⟨y1, r1, rfl, hl2⟩ := cons_of hl1
    obtain ⟨y2, r2, rfl, hl3⟩ := cons_of hl2
    obtain ⟨y3, r3, rfl, hl4⟩ := cons_of hl3
    obtain ⟨y4, r4, rfl, hl5⟩ := cons_of hl4
    obtain ⟨y5, r5, rfl, hl6⟩ := cons_of hl5
    obtain ⟨y6, r6, rfl, hl7⟩ := cons_of hl6
    obtain ⟨y7, r7, rfl, hl8⟩ := cons_of hl7
    obtain ⟨y8, r8, rfl, hl9⟩ := cons_of hl8
    obtain ⟨y9, r9, rfl, hl10⟩ := cons_of hl9
    obtain ⟨y10, r10, rfl, hl11⟩ := cons_of hl10
    obtain ⟨y11, r11, rfl, hl12⟩ := cons_of hl11
    obtain ⟨y12, r12, rfl, hl13⟩ := cons_of hl12
    obtain rfl := nil_of hl13
    obtain ⟨q, s3, wv3, l3, rfl, hq, hk3, hr1, hr2, fs, hr3⟩ := h12 _ rfl
    simp only [putAll, Act.put, List.setIfInBounds_toArray, List.set_cons_zero, List.set_cons_succ]
    have hJ3 : Below w.heap.size w w3 := hJ
    have hd3 := CloneB.disk (w1 := w) hr1 hr2 hr3 hk3 hq
    have hsig := hr3.sig
    obtain ⟨n, hn⟩ : ∃ n, n = D.nx := ⟨_, rfl⟩
    have c1 : w3.cell? ⟨g, 1, none⟩ = some (.int .i64 (n : Nat)) := by rw [hn]; exact (HD.out.below hJ3).blk.cell 1
    have hst := st3i (x := (n : Nat)) (hk3.cell 1) (hk3.frozen 1)
    have hk4 := hk3.set_ 1 (.int .i64 (n : Nat))
    have hO4 : OnlyF (fun k => k = q) w3 (w3.setCell ⟨q, 1, none⟩ (.int .i64 (n : Nat))) := (OnlyF.refl _ w3).grown (setCell_grown w3 q 1 _) (fun k e _ => by cases e; rfl)
    obtain ⟨w4, hw4⟩ : ∃ w4, w3.setCell ⟨q, 1, none⟩ (.int .i64 (n : Nat)) = w4 := ⟨_, rfl⟩
    have hs4 : w4.heap.size = w3.heap.size := by rw [← hw4]; simp
    rw [hw4] at hst hk4 hO4
    have hd4 := hd3.setBad (D' := { D with log := fs, bad := none }) (bv' := .map none) hO4 (by rw [hn] at hk4; simpa using hk4) (fun k => w.heap.size ≤ k ∧ k < w4.heap.size) (fun k hk => ⟨hk.1, by rw [hs4]; exact hk.2⟩) (fun k hk => hk.2) rfl rfl rfl rfl
    have hb4 : Below w.heap.size w w4 := hJ3.trans (hO4.below hJ3.size (fun k hk => by subst hk; exact hq))
    have c0 : w4.cell? ⟨g, 0, none⟩ = some bv := (HD.out.below hb4).blk.cell 0
    have HST := Lib.hid hst
    have HD4 := Lib.hid hd4
    have HB4 := Lib.hid hb4
    have HSIG := Lib.hid hsig
    have HQ := Lib.hid hq
    have HGL : Hid (g < w.heap.size) := Lib.hid (HD.out.lt g HD.out.own)
    clear hS hl hl0 h12 hJ hJ3 hd3 hsig hst hk4 hO4 hd4 hb4 hk3 hr1 hr2 hr3 hw4 hs4 hq hn HCA HCW HCL CN hl1 hl2 hl3 hl4 hl5 hl6 hl7 hl8 hl9 hl10 hl11 hl12 hl13
    cases hbd : D.bad with
    | none =>
      have hbad := HD.out.bad
      rw [hbd] at hbad
      obtain rfl : bv = .map none := hbad
      have HBD := Lib.hid hbd
      clear hbd
      go_wp2_with (first
        | (with_reducible show wpList _ _ _ (Oper.mk none (Op.store 3 _ _) _ _ _ _ :: _) _ _; go_must (refine wpList_done rfl w4 (Ph.run_store (X := .pointer (some ⟨q, 1, none⟩)) (Y := .int .i64 (n : Nat)) rfl rfl rfl HST.out) ?_))
        | (with_reducible show wpList _ _ _ (Oper.mk (some 33) _ _ _ _ _ :: _) _ _; go_must (refine wpList_wrun rfl _ (Ph.run_bin (X := .map none) (Y := .map none) rfl rfl rfl rfl (neq_map_none _)) ?_)))
      go_ret
      have h4 : DiskV w4 (fun k => w.heap.size ≤ k ∧ k < w4.heap.size) q { D with log := fs } (.map none) s3 wv3 l3 := by
        have := HD4.out
        rw [← HBD.out] at this
        exact this
      exact ⟨q, fs, rfl, HSIG.out, ⟨_, _, _, _, h4⟩, HB4.out⟩
    | some l =>
      have hbad := HD.out.bad
      rw [hbd] at hbad
      obtain ⟨b, n0, M, rfl, hFb, hn0, hm, hkk⟩ := hbad
      have HBD := Lib.hid hbd
      have hbw : b < w.heap.size := HD.out.lt b hFb
      have hm4 : w4.ownsMap Try.prog 3 (plainElem Try.prog 3) b n0 M := (OnlyF.of_below (F := fun _ => False) HB4.out).map hm (fun h => h)
      obtain ⟨b5, hb5⟩ : ∃ b5, w4.heap.size = b5 := ⟨_, rfl⟩
      obtain ⟨w5, hw5⟩ : ∃ w5, w4.alloc (.map #[] 0) = w5 := ⟨_, rfl⟩
      have hs5 : w5.heap.size = b5 + 1 := by rw [← hw5, ← hb5]; simp
      have hbl5 : Below w4.heap.size w4 w5 := by rw [← hw5]; exact (Below.refl _ w4).alloc (Nat.le_refl _) _
      have hmk : (Instr.makeMap 135 none).run Try.prog w4 = .ok (.map (some b5)) w5 := by rw [← hw5, ← hb5]; rfl
      have hm5 : w5.ownsMap Try.prog 3 (plainElem Try.prog 3) b5 0 (.map [] : DataW Unit) := by rw [← hw5, ← hb5]; exact World.ownsMap_made w4 _ _ _
      have hd5 := HD4.out.below hbl5
      have hst5 := st135 (p := some b5) (hd5.blk.cell 0) (hd5.blk.frozen 0)
      have hk6 := hd5.blk.set_ 0 (.map (some b5))
      have hO6 : OnlyF (fun k => k = q) w5 (w5.setCell ⟨q, 0, none⟩ (.map (some b5))) := (OnlyF.refl _ w5).grown (setCell_grown w5 q 0 _) (fun k e _ => by cases e; rfl)
      obtain ⟨w6, hw6⟩ : ∃ w6, w5.setCell ⟨q, 0, none⟩ (.map (some b5)) = w6 := ⟨_, rfl⟩
      have hs6 : w6.heap.size = b5 + 1 := by rw [← hw6, ← hs5]; simp
      rw [hw6] at hst5 hk6 hO6
      have hqb : q < b5 := by rw [← hb5]; exact (HD4.out.lt q HD4.out.own)
      have hm6 := hO6.map hm5 (fun e => by omega)
      have hbq : w4.heap.size ≤ w5.heap.size := hbl5.size
      have hB6 : Below w.heap.size w w6 := (HB4.out.trans (hbl5.mono HB4.out.size)).trans (hO6.below (Nat.le_trans HB4.out.size hbq) (fun k hk => by subst hk; exact HQ.out))
      have hmm6 : w6.ownsMap Try.prog 3 (plainElem Try.prog 3) b n0 M := (OnlyF.of_below (F := fun _ => False) hB6).map hm (fun h => h)
      have HC6 : Hid (∀ W, OnlyF (fun k => k = b5 ∨ b5 < k) w6 W → W.cell? ⟨q, 0, none⟩ = some (.map (some b5))) := Lib.hid (fun W hW => (hW.blk hk6 (fun h => by omega)).cell 0)
      have HG6 : Hid (w6.cell? ⟨g, 0, none⟩ = some (.map (some b))) := Lib.hid ((HD.out.below hB6).blk.cell 0)
      have HEND : Hid (∀ W, OnlyF (fun k => k = b5 ∨ b5 < k) w6 W → BadAt W (fun k => w.heap.size ≤ k ∧ k < W.heap.size) (.map (some b5)) (some l) → DiskV W (fun k => w.heap.size ≤ k ∧ k < W.heap.size) q { D with log := fs } (.map (some b5)) s3 wv3 l3) := Lib.hid (fun W hW hbd2 => by
        have keepR : ∀ {e : TypeId} {size n : Nat} {v : Value} {xs : List Value}, e ≠ 139 → RowF w5 (fun k => w.heap.size ≤ k ∧ k < w4.heap.size) e size v n xs → RowF W (fun k => w.heap.size ≤ k ∧ k < W.heap.size) e size v n xs := fun he hr => by
          have h1 := hO6.own hr.1 (fun k hk hh => by subst hh; exact own_blk_ne hr.1 hd5.blk he hk)
          have h2 := hW.own h1 (fun k hk hh => by have := (hr.2 k hk).2; omega)
          exact ⟨h2, fun k hk => ⟨(hr.2 k hk).1, own_lt h2 hk⟩⟩
        refine ⟨by have := hW.blk hk6 (fun h => by omega); simpa using this, ⟨HQ.out, by have := hW.size; omega⟩, fun k hk => hk.2, by rw [show ({ D with log := fs } : Dk).bad = some l from HBD.out]; exact hbd2, keepR (by decide) hd5.safe, keepR (by decide) hd5.wait, keepR (by decide) hd5.log, fun e he => keepR (by decide) (hd5.tags e he)⟩)
      have HB6 := Lib.hid hB6
      have HST5 := Lib.hid hst5
      have HM6 := Lib.hid hm6
      have HMM6 := Lib.hid hmm6
      have HMC := Lib.hid hm
      have HKK := Lib.hid hkk
      have HN0 : Hid (n0 ≤ 100000) := Lib.hid hn0
      have HNB : Hid (b < w.heap.size ∧ w.heap.size ≤ b5 ∧ w6.heap.size = b5 + 1) := Lib.hid ⟨hbw, by rw [← hb5]; exact HB4.out.size, hs6⟩
      clear hFb hn0 hm hkk hbw hm4 hb5 hw5 hs5 hbl5 hm5 hd5 hst5 hk6 hO6 hw6 hs6 hqb hm6 hbq hB6 hmm6 hbd
      go_wp2_with (first
        | (with_reducible show wpList _ _ _ (Oper.mk none (Op.store 3 _ _) _ _ _ _ :: _) _ _; go_must (refine wpList_done rfl w4 (Ph.run_store (X := .pointer (some ⟨q, 1, none⟩)) (Y := .int .i64 (n : Nat)) rfl rfl rfl HST.out) ?_))
        | (with_reducible show wpList _ _ _ (Oper.mk (some 33) _ _ _ _ _ :: _) _ _; go_must (refine wpList_wrun rfl _ (Ph.run_bin (X := .map (some b)) (Y := .map none) rfl rfl rfl rfl (neq_map_some b _)) ?_))
        | (with_reducible show wpList _ _ _ (Oper.mk none (Op.store 135 _ _) _ _ _ _ :: _) _ _; go_must (refine wpList_done rfl w6 (Ph.run_store (X := .pointer (some ⟨q, 0, none⟩)) (Y := .map (some b5)) rfl rfl rfl HST5.out) ?_))
        | (with_reducible show wpList _ _ _ (Oper.mk (some 43) _ _ _ _ _ :: _) _ _; go_must (refine wpList_wrun rfl _ (Ph.run_load (X := .pointer (some ⟨g, 0, none⟩)) rfl rfl (ld135 HG6.out)) ?_))
        | (at_range; refine wpList_range_own _ rfl (.tmp 43) 135 rfl 3 3 lawI Try.underlying135 _ b n0 M rfl HMM6.out ?_; intro w7 hrg7 hg7 hs7))
      have HO7 : Hid (OnlyF (fun k => k = b5 ∨ b5 < k) w6 w7) := Lib.hid ((OnlyF.refl _ w6).grown hg7 (fun k e _ => by cases e))
      have hm7 : w7.ownsMap Try.prog 3 (plainElem Try.prog 3) b5 0 (.map [] : DataW Unit) := HM6.out.kept hg7 (by simp)
      obtain ⟨r, hr⟩ : ∃ r, r = w6.heap.size := ⟨_, rfl⟩
      rw [← hr] at hrg7 hs7
      have hrb : r = b5 + 1 := by rw [hr]; exact HNB.out.2.2
      have HR : Hid (r = b5 + 1) := Lib.hid hrb
      rw [← hr]
      clear hmk hr hg7 hrb
      go_frame
      go_loopw [4] (fun _ wr => ∃ (left : Lit → Bool) (cnt : Nat) (Dout : DataW Unit), wr.ranges Try.prog 3 (plainElem Try.prog 3) b r n0 M left cnt ∧ cnt ≤ Maps.size M ∧
          wr.ownsMap Try.prog 3 (plainElem Try.prog 3) b5 (Maps.size M - cnt) Dout ∧ Maps.Agree Dout M left ∧ Hid (OnlyF (fun k => k = b5 ∨ b5 < k) w6 wr))
        (fun _ wr => wr.rangeLeft b r)
      case atStart => exact ⟨_, _, .map [], hrg7, Nat.le_refl _, hm7.mono (Nat.zero_le _), Maps.agree_start M, HO7⟩
      case round =>
        obtain ⟨left, cnt, Dout, hrg, hcs, hout, hA, HO⟩ := hrel
        go_wp2_with (first
          | (at_next; refine wpList_next_ranges_ii _ rfl (.tmp 44) rfl 3 3 .i64 .i64 lawI Try.underlying3 Try.underlying3 b r n0 _ _ _ rfl hrg ?_ ?_)
          | fail)
        · intro hc0 hl0
          go_wp2_with fail
          go_ret
          subst hc0
          have e := Maps.agree_end hA hl0 (hout.canon lawI) (HMC.out.canon lawI)
          subst e
          have hO := HO.out
          refine ⟨q, fs, rfl, HSIG.out, ⟨_, _, _, _, HEND.out _ hO ⟨b5, _, Dout, rfl, ⟨HNB.out.2.1, by have := hO.size; have := HNB.out; omega⟩, ?_, hout, HKK.out⟩⟩, HB6.out.trans (hO.below HB6.out.size (fun k hk => by have := HNB.out; omega))⟩
          have := HMC.out.size_le
          have := HN0.out
          omega
        · intro x c w8 cnt1 hwx hwc hlx hat hrg1 hlt hg1 hs1 hen
          have hc1 : c = 1 := by
            have h1 := Maps.has_true_of_atKey hat
            have h2 := HKK.out x
            rw [h1] at h2
            have h3 := (hat zero3L).symm.trans h2.2
            rw [← h2.1] at h3
            simpa using h3
          subst hc1
          have hO8 : OnlyF (fun k => k = b5 ∨ b5 < k) w6 w8 := HO.out.grown hg1 (fun k e _ => by cases e; exact .inr (by have := HR.out; omega))
          have hc8 := HC6.out w8 hO8
          have hout1 := hout.kept hg1 (by have := HR.out; simp; omega)
          have hsz := HMC.out.size_le
          have hn0 := HN0.out
          go_wp2_with (first
            | (at_mapUpdate; refine wpList_mapUpdate_own _ rfl _ _ _ 135 rfl 3 3 lawI Try.underlying135 _ b5 _ _ rfl hout1 (by unfold maxLen; omega) _ _ _ rfl rfl (Maps.keyOf_int_mk Try.underlying3 hwx) _ [] (plainElem_int Try.underlying3 hwc) ?_; intro w9 hout2 hg2; go_frame)
            | fail)
          have hne1 : b5 ≠ b := by have := HNB.out; omega
          have hne2 : b5 ≠ r := by have := HR.out; omega
          have hrg2 := hrg1.kept hg2 (fun e => hne1 (Option.some.inj e).symm) (fun e => hne2 (Option.some.inj e).symm)
          go_roundw
          case rel =>
            exact ⟨_, cnt1, _, hrg2, by omega, hout2.mono (by omega), Maps.agree_step hA hout.isMap trivial hat, Lib.hid (hO8.grown hg2 (fun k e _ => by cases e; exact .inl rfl))⟩
          case measure => rw [hrg2.left_eq, hrg.left_eq]; exact hlt
end Go.Proofs.Ytikhhipgamllgaa
namespace Go.Proofs.Ytikhhipgamllgaa
open Go.RowKit
def Dk.badAt (D : Dk) (j : Int) : Bool := match D.bad with | none => false | some l => l.contains j
structure Alike (k : Nat) (D : Dk) (R : Rk) : Prop where
  safe : D.safe = R.safe
  wait : D.wait = R.wait
  ep : D.ep = R.ep
  nx : D.nx = R.asked
  log : D.log.map sigE = R.log.map sigE
  bad : ∀ j : Int, D.badAt j = R.bad.contains j
  pos : 0 < D.safe.length
  le : D.safe.length ≤ 65
  wl : D.wait.length ≤ k
  ll : D.log.length ≤ k
  nl : D.nx ≤ k
  el : D.ep ≤ k
  okw : ∀ x ∈ D.wait, okW D.safe.length x
  tl : ∀ e ∈ D.log, e.tags.length ≤ 50
  bl : R.bad.length ≤ 50
section
variable {k : Nat} {D : Dk} {R : Rk}
theorem Alike.more (h : Alike k D R) : Alike (k + 1) D R := ⟨h.safe, h.wait, h.ep, h.nx, h.log, h.bad, h.pos, h.le, Nat.le_succ_of_le h.wl, Nat.le_succ_of_le h.ll, Nat.le_succ_of_le h.nl, Nat.le_succ_of_le h.el, h.okw, h.tl, h.bl⟩
theorem fails_badAt (D : Dk) : D.fails = D.badAt D.nx := by
  unfold Dk.fails Dk.badAt
  cases D.bad <;> rfl
theorem Alike.fails (h : Alike k D R) : D.fails = R.fails := by
  rw [fails_badAt, h.bad, h.nx]; rfl
theorem Alike.next (h : Alike k D R) : Alike (k + 1) D.next R.next :=
  ⟨h.safe, h.wait, h.ep, by show D.nx + 1 = R.asked + 1; rw [h.nx], h.log, h.bad, h.pos, h.le, Nat.le_succ_of_le h.wl, Nat.le_succ_of_le h.ll, Nat.succ_le_succ h.nl, Nat.le_succ_of_le h.el, h.okw, h.tl, h.bl⟩
theorem Alike.len (h : Alike k D R) : R.safe.length = D.safe.length := by rw [h.safe]
theorem Alike.write (h : Alike k D R) (at_ : Int) (s : Sec) (t : Tg) (ht : okT t) : (D.write at_ s t).2 = (R.write at_ s t).2 ∧ Alike (k + 1) (D.write at_ s t).1 (R.write at_ s t).1 := by
  unfold Dk.write Rk.write
  rw [h.fails, h.len]
  cases hi : atIn at_ D.safe.length with
  | false => rw [if_pos rfl, if_pos rfl]; exact ⟨rfl, h.next⟩
  | true =>
    rw [if_neg (show ¬ true = false by decide), if_neg (show ¬ true = false by decide)]
    cases R.fails with
    | true => rw [if_pos rfl, if_pos rfl]; exact ⟨rfl, h.next⟩
    | false =>
      rw [if_neg (by decide), if_neg (by decide)]
      have hx : D.wr at_ s t = R.wr at_ s t := by unfold Dk.wr Rk.wr; rw [h.ep]
      rw [← hx]
      refine ⟨rfl, ⟨h.safe, ?_, h.ep, by show D.nx + 1 = R.asked + 1; rw [h.nx], ?_, h.bad, h.pos, h.le, ?_, ?_, Nat.succ_le_succ h.nl, Nat.le_succ_of_le h.el, fun x hx => ?_, fun e he => ?_, h.bl⟩⟩
      · show D.wait ++ [D.wr at_ s t] = R.wait ++ [D.wr at_ s t]; rw [h.wait]
      · show (D.log ++ [(⟨1, D.wr at_ s t, [], none, 0⟩ : Ev)]).map sigE = (R.log ++ [(⟨1, D.wr at_ s t, [], none, 0⟩ : Ev)]).map sigE
        rw [List.map_append, List.map_append, h.log]
      · simp [Dk.put, Dk.next, h.wl]
      · simp [Dk.put, Dk.next, h.ll]
      · rcases List.mem_append.1 hx with hx | hx
        · exact h.okw x hx
        · have : x = D.wr at_ s t := by simpa using hx
          subst this
          exact ⟨hi, ht⟩
      · rcases List.mem_append.1 he with he | he
        · exact h.tl e he
        · have : e = ⟨1, D.wr at_ s t, [], none, 0⟩ := by simpa using he
          subst this
          exact Nat.zero_le _
theorem Alike.barrier (h : Alike k D R) : D.barrier.2 = R.barrier.2 ∧ Alike (k + 1) D.barrier.1 R.barrier.1 := by
  unfold Dk.barrier Rk.barrier
  rw [h.fails]
  cases R.fails with
  | true => rw [if_pos rfl, if_pos rfl]; exact ⟨rfl, h.next⟩
  | false =>
    rw [if_neg (by decide), if_neg (by decide)]
    refine ⟨rfl, ⟨h.safe, h.wait, by show D.ep + 1 = R.ep + 1; rw [h.ep], by show D.nx + 1 = R.asked + 1; rw [h.nx], ?_, h.bad, h.pos, h.le, Nat.le_succ_of_le h.wl, ?_, Nat.succ_le_succ h.nl, Nat.succ_le_succ h.el, h.okw, fun e he => ?_, h.bl⟩⟩
    · show (D.log ++ [(⟨3, zeroWr, [], none, 0⟩ : Ev)]).map sigE = (R.log ++ [evB]).map sigE
      rw [List.map_append, List.map_append, h.log]; rfl
    · simp [h.ll]
    · rcases List.mem_append.1 he with he | he
      · exact h.tl e he
      · have : e = ⟨3, zeroWr, [], none, 0⟩ := by simpa using he
        subst this
        exact Nat.zero_le _
theorem Alike.synced (h : Alike k D R) (ts : List Tg) (hts : ts.length ≤ 50) (A A' : Option Addr) (c c' : Nat) : Alike (k + 1) (D.synced ts A c) (R.synced ts A' c') := by
  have hmd : D.md ts = R.md ts := by unfold Dk.md Rk.md; rw [h.wait]
  have e1 : (D.synced ts A c).safe = (R.synced ts A' c').safe := by
    show safeN D.wait (D.md ts) D.safe D.wait.length = safeN R.wait (R.md ts) R.safe R.wait.length
    rw [hmd, h.safe, h.wait]
  have e2 : (D.synced ts A c).wait = (R.synced ts A' c').wait := by
    show leftN D.wait (D.md ts) (lastN D.wait (D.md ts) D.wait.length) D.wait.length = leftN R.wait (R.md ts) (lastN R.wait (R.md ts) R.wait.length) R.wait.length
    rw [hmd, h.wait]
  have e3 : (D.synced ts A c).safe.length = D.safe.length := safeN_len _ _ _ _
  refine ⟨e1, e2, h.ep, by show D.nx + 1 = R.asked + 1; rw [h.nx], ?_, h.bad, by rw [e3]; exact h.pos, by rw [e3]; exact h.le, ?_, ?_, Nat.succ_le_succ h.nl, Nat.le_succ_of_le h.el, ?_, fun e he => ?_, h.bl⟩
  · show (D.log ++ [(⟨2, zeroWr, ts, A, c⟩ : Ev)]).map sigE = (R.log ++ [(⟨2, zeroWr, ts, A', c'⟩ : Ev)]).map sigE
    rw [List.map_append, List.map_append, h.log]; rfl
  · exact Nat.le_trans (leftN_le _ _ _ _) (Nat.le_succ_of_le h.wl)
  · simp [Dk.synced, h.ll]
  · rw [e3]; exact settle_ok D ts h.okw
  · rcases List.mem_append.1 he with he | he
    · exact h.tl e he
    · have : e = ⟨2, zeroWr, ts, A, c⟩ := by simpa using he
      subst this
      exact hts
theorem Alike.fail (h : Alike k D R) (l : List Int) (hl : l.length ≤ 50) : Alike k (D.fail l) (R.fail l) :=
  ⟨h.safe, h.wait, h.ep, rfl, h.log, fun _ => rfl, h.pos, h.le, h.wl, h.ll, Nat.zero_le _, h.el, h.okw, h.tl, hl⟩
theorem Alike.read (h : Alike k D R) (a : Int) : D.read a = R.read a := by
  unfold Dk.read Rk.read
  rw [h.safe, h.wait]
theorem Alike.relog (h : Alike k D R) {fs : List Ev} (hf : fs.map sigE = D.log.map sigE) : Alike k { D with log := fs } R :=
  ⟨h.safe, h.wait, h.ep, h.nx, hf.trans h.log, h.bad, h.pos, h.le, h.wl, by have := congrArg List.length hf; simp only [List.length_map] at this; show fs.length ≤ k; rw [this]; exact h.ll, h.nl, h.el, h.okw, fun e he => by
    have h1 : sigE e ∈ D.log.map sigE := by rw [← hf]; exact List.mem_map.2 ⟨e, he, rfl⟩
    obtain ⟨d, hd, hde⟩ := List.mem_map.1 h1
    have h2 : d.tags = e.tags := by
      unfold sigE at hde
      exact (Prod.mk.inj (Prod.mk.inj hde).2).2
    rw [← h2]; exact h.tl d hd, h.bl⟩
theorem alike_of (l : List Sec) (h0 : 0 < l.length) (h1 : l.length ≤ 65) : Alike 0 (Dk.of l) (Rk.of l) :=
  ⟨rfl, rfl, rfl, rfl, rfl, fun _ => rfl, h0, h1, Nat.le_refl _, Nat.le_refl _, Nat.le_refl _, Nat.le_refl _, fun x hx => (by cases hx), fun e he => (by cases he), Nat.zero_le _⟩
end
/-! ### both in memory -/
structure PairV (w0 W : World) (g1 g2 : Nat) (F1 F2 : Nat → Prop) (D : Dk) (R : Rk) : Prop where
  disk : DiskAt W F1 g1 D
  refd : RefAt W F2 g2 R
  sep : ∀ q, F1 q → ¬ F2 q
  base1 : ∀ q, F1 q → w0.heap.size ≤ q
  base2 : ∀ q, F2 q → w0.heap.size ≤ q
  below : Below w0.heap.size w0 W
section
variable {w0 W W' : World} {g1 g2 : Nat} {F1 F2 : Nat → Prop} {D D' : Dk} {R R' : Rk}
theorem PairV.grow (h : PairV w0 W g1 g2 F1 F2 D R) (hb : Below W.heap.size W W') : PairV w0 W' g1 g2 F1 F2 D R :=
  ⟨h.disk.below hb, h.refd.below hb, h.sep, h.base1, h.base2, below_then h.below hb⟩
theorem PairV.turnD (h : PairV w0 W g1 g2 F1 F2 D R) (ht : Turned W F1 g1 D' W') : ∃ F1', PairV w0 W' g1 g2 F1' F2 D' R ∧ Wider F1 F1' W W' ∧ OnlyF F1 W W' := by
  obtain ⟨F', hd, hw, ho⟩ := ht
  refine ⟨F', ⟨hd, h.refd.keep ho (fun q h2 h1 => h.sep q h1 h2), fun q hq h2 => ?_, hw.base h.below.size h.base1, h.base2, h.below.trans (ho.below h.below.size h.base1)⟩, hw, ho⟩
  rcases hw q hq with h1 | h1
  · exact h.sep q h1 h2
  · have := h.refd.lt q h2; omega
theorem PairV.turnR (h : PairV w0 W g1 g2 F1 F2 D R) (ht : RTurned W F2 g2 R' W') : ∃ F2', PairV w0 W' g1 g2 F1 F2' D R' ∧ Wider F2 F2' W W' ∧ OnlyF F2 W W' := by
  obtain ⟨F', hd, hw, ho⟩ := ht
  refine ⟨F', ⟨h.disk.keep ho (fun q h1 h2 => h.sep q h1 h2), hd, fun q hq h2 => ?_, h.base1, hw.base h.below.size h.base2, h.below.trans (ho.below h.below.size h.base2)⟩, hw, ho⟩
  rcases hw q h2 with h1 | h1
  · exact h.sep q hq h1
  · have := h.disk.lt q hq; omega
/-- and an act in a block of its own -/
def St (w0 : World) (g1 g2 b5 : Nat) (a : Ac) (D : Dk) (R : Rk) (W : World) : Prop := ∃ F1 F2, PairV w0 W g1 g2 F1 F2 D R ∧ Blk W b5 72 (cellsA a).toArray ∧ ¬ F1 b5 ∧ ¬ F2 b5
variable {b5 : Nat} {a : Ac}
theorem St.grow (h : St w0 g1 g2 b5 a D R W) (hb : Below W.heap.size W W') : St w0 g1 g2 b5 a D R W' := by
  obtain ⟨F1, F2, hp, hk, n1, n2⟩ := h
  exact ⟨F1, F2, hp.grow hb, hk.below hb hk.lt, n1, n2⟩
theorem St.act (h : St w0 g1 g2 b5 a D R W) : Blk W b5 72 (cellsA a).toArray := by obtain ⟨_, _, _, hk, _⟩ := h; exact hk
theorem St.below (h : St w0 g1 g2 b5 a D R W) : Below w0.heap.size w0 W := by obtain ⟨_, _, hp, _⟩ := h; exact hp.below
theorem St.turnD {F1 F2 : Nat → Prop} (hp : PairV w0 W g1 g2 F1 F2 D R) (hk : Blk W b5 72 (cellsA a).toArray) (n1 : ¬ F1 b5) (n2 : ¬ F2 b5) (ht : Turned W F1 g1 D' W') : St w0 g1 g2 b5 a D' R W' := by
  obtain ⟨F', hp', hw, ho⟩ := hp.turnD ht
  exact ⟨F', F2, hp', ho.blk hk n1, hw.not hk.lt n1, n2⟩
theorem St.turnR {F1 F2 : Nat → Prop} (hp : PairV w0 W g1 g2 F1 F2 D R) (hk : Blk W b5 72 (cellsA a).toArray) (n1 : ¬ F1 b5) (n2 : ¬ F2 b5) (ht : RTurned W F2 g2 R' W') : St w0 g1 g2 b5 a D R' W' := by
  obtain ⟨F', hp', hw, ho⟩ := hp.turnR ht
  exact ⟨F1, F', hp', ho.blk hk n2, n1, hw.not hk.lt n2⟩
theorem St.kind (h : St w0 g1 g2 b5 a D R W) : W.cell? ⟨b5, 0, none⟩ = some (.int .i64 a.kind) := h.act.cell 0
theorem St.at_ (h : St w0 g1 g2 b5 a D R W) : W.cell? ⟨b5, 1, none⟩ = some (.int .i64 a.at_) := h.act.cell 1
theorem St.sec (h : St w0 g1 g2 b5 a D R W) : W.rangeAt b5 2 (cellsS a.s) := h.act.range 2 _ (fun j v hj => cellsA_s a j v hj)
theorem St.tag (h : St w0 g1 g2 b5 a D R W) : W.rangeAt b5 34 (cellsT a.t) := h.act.range 34 _ (fun j v hj => cellsA_t a j v hj)
theorem St.tags (h : St w0 g1 g2 b5 a D R W) : W.cell? ⟨b5, 36, none⟩ = some (.slice a.tA a.ts.length a.tc) := (h.act.cell 36).trans (by rw [List.getElem?_toArray]; exact cellsA_ts a)
theorem St.bads (h : St w0 g1 g2 b5 a D R W) : W.cell? ⟨b5, 37, none⟩ = some (.slice a.bA a.bad.length a.bc) := (h.act.cell 37).trans (by rw [List.getElem?_toArray]; exact cellsA_bad a)
/-- an act's parts, as they came in -/
def OkB (w : World) (B : Nat) (a : Ac) : Prop := OkA w B a ∧ ∀ x ∈ a.bad, okI x
theorem readsAt {size n : Nat} {A : Option Addr} {xs : List Value} (hr : Reads w0 w0.heap.size size A n xs) (hb : Below w0.heap.size w0 W) : Reads W W.heap.size size A n xs := (hr.below hb).more hb.size
theorem readsPast {size n : Nat} {A : Option Addr} {xs : List Value} (hr : Reads w0 w0.heap.size size A n xs) (hb : Below w0.heap.size w0 W) {F : Nat → Prop} (hF : ∀ q, F q → w0.heap.size ≤ q) (W' : World) (ho : OnlyF F W W') : Reads W' W'.heap.size size A n xs :=
  readsAt hr (hb.trans (ho.below hb.size hF))
/-! ### the calls, on both -/
variable {k : Nat}
theorem St.dwrite (h : St w0 g1 g2 b5 a D R W) (hp : 0 < D.safe.length) (hn : D.nx ≤ 1000000) (hw : D.wait.length ≤ 100000) (hl : D.log.length ≤ 100000) (at_ : Int) (s : Sec) (t : Tg) :
    Calls Try.prog 45 #[.pointer (some ⟨g1, 0, none⟩), .int .i64 at_, .agg (cellsS s).toArray, .agg (cellsT t).toArray] W fun o W' => o = .returned (.int .i64 (D.write at_ s t).2) ∧ St w0 g1 g2 b5 a (D.write at_ s t).1 R W' := by
  obtain ⟨F1, F2, hpv, hk, n1, n2⟩ := h
  obtain ⟨_, _, _, _, hd⟩ := hpv.disk
  refine (write_any hd hp hn hw hl at_ s t).mono ?_
  rintro o W' ⟨rfl, ht⟩
  exact ⟨rfl, St.turnD hpv hk n1 n2 ht⟩
theorem St.rwrite (h : St w0 g1 g2 b5 a D R W) (hn : R.asked ≤ 1000000) (hb : R.bad.length ≤ 100000) (hw : R.wait.length ≤ 100000) (hl : R.log.length ≤ 100000) (at_ : Int) (s : Sec) (t : Tg) :
    Calls Try.prog 94 #[.pointer (some ⟨g2, 0, none⟩), .int .i64 at_, .agg (cellsS s).toArray, .agg (cellsT t).toArray] W fun o W' => o = .returned (.int .i64 (R.write at_ s t).2) ∧ St w0 g1 g2 b5 a D (R.write at_ s t).1 W' := by
  obtain ⟨F1, F2, hpv, hk, n1, n2⟩ := h
  obtain ⟨_, _, _, _, hd⟩ := hpv.refd
  refine (rwrite_any hd hn hb hw hl at_ s t).mono ?_
  rintro o W' ⟨rfl, ht⟩
  exact ⟨rfl, St.turnR hpv hk n1 n2 ht⟩
theorem St.dbarrier (h : St w0 g1 g2 b5 a D R W) (hp : 0 < D.safe.length) (hn : D.nx ≤ 1000000) (he : D.ep ≤ 1000000) (hl : D.log.length ≤ 100000) :
    Calls Try.prog 46 #[.pointer (some ⟨g1, 0, none⟩)] W fun o W' => o = .returned (.int .i64 D.barrier.2) ∧ St w0 g1 g2 b5 a D.barrier.1 R W' := by
  obtain ⟨F1, F2, hpv, hk, n1, n2⟩ := h
  obtain ⟨_, _, _, _, hd⟩ := hpv.disk
  refine (barrier_any hd hp hn he hl).mono ?_
  rintro o W' ⟨rfl, ht⟩
  exact ⟨rfl, St.turnD hpv hk n1 n2 ht⟩
theorem St.rbarrier (h : St w0 g1 g2 b5 a D R W) (hn : R.asked ≤ 1000000) (hb : R.bad.length ≤ 100000) (he : R.ep ≤ 1000000) (hl : R.log.length ≤ 100000) :
    Calls Try.prog 96 #[.pointer (some ⟨g2, 0, none⟩)] W fun o W' => o = .returned (.int .i64 R.barrier.2) ∧ St w0 g1 g2 b5 a D R.barrier.1 W' := by
  obtain ⟨F1, F2, hpv, hk, n1, n2⟩ := h
  obtain ⟨_, _, _, _, hd⟩ := hpv.refd
  refine (rbarrier_any hd hn hb he hl).mono ?_
  rintro o W' ⟨rfl, ht⟩
  exact ⟨rfl, St.turnR hpv hk n1 n2 ht⟩
def errV (f : Bool) : Int := if f then 3 else 0
def DSync (D : Dk) (ts : List Tg) (D' : Dk) : Prop := (D.fails = true ∧ D' = D.next) ∨ (D.fails = false ∧ ∃ A c, D' = D.synced ts A c)
def RSync (R : Rk) (ts : List Tg) (R' : Rk) : Prop := (R.fails = true ∧ R' = R.next) ∨ (R.fails = false ∧ ∃ A c, R' = R.synced ts A c)
theorem Alike.sync (h : Alike k D R) {ts : List Tg} (hts : ts.length ≤ 50) (h1 : DSync D ts D') (h2 : RSync R ts R') : Alike (k + 1) D' R' := by
  rcases h1 with ⟨f1, rfl⟩ | ⟨f1, A, c, rfl⟩
  · rcases h2 with ⟨f2, rfl⟩ | ⟨f2, A, c, rfl⟩
    · exact h.next
    · rw [h.fails, f2] at f1; cases f1
  · rcases h2 with ⟨f2, rfl⟩ | ⟨f2, A', c', rfl⟩
    · rw [h.fails, f2] at f1; cases f1
    · exact h.synced ts hts A A' c c'
theorem St.dsync (h : St w0 g1 g2 b5 a D R W) (hal : Alike k D R') (hk100 : k ≤ 100) (A : Option Addr) (c : Nat) (ts : List Tg) (hts : ts.length ≤ 50) (hokt : ∀ t ∈ ts, okT t) (hr : Reads w0 w0.heap.size 2 A ts.length (ts.flatMap cellsT)) :
    Calls Try.prog 48 #[.pointer (some ⟨g1, 0, none⟩), .slice A ts.length c] W fun o W' => o = .returned (.int .i64 (errV D.fails)) ∧ ∃ D', DSync D ts D' ∧ St w0 g1 g2 b5 a D' R W' := by
  obtain ⟨F1, F2, hpv, hk, n1, n2⟩ := h
  obtain ⟨_, _, _, _, hd⟩ := hpv.disk
  refine (sync_any hd hal.pos (by have := hal.le; omega) (by have := hal.wl; omega) (by have := hal.nl; omega) (by have := hal.ll; omega) hal.okw A c ts (by omega) hokt (readsPast hr hpv.below hpv.base1)).mono ?_
  rintro o W' (⟨f, rfl, ht⟩ | ⟨f, rfl, A', c', ht⟩)
  · exact ⟨by rw [f]; rfl, _, .inl ⟨f, rfl⟩, St.turnD hpv hk n1 n2 ht⟩
  · exact ⟨by rw [f]; rfl, _, .inr ⟨f, A', c', rfl⟩, St.turnD hpv hk n1 n2 ht⟩
theorem St.rsync {D0 : Dk} (h : St w0 g1 g2 b5 a D R W) (hal : Alike k D0 R) (hk100 : k ≤ 100) (A : Option Addr) (c : Nat) (ts : List Tg) (hts : ts.length ≤ 50) (hr : Reads w0 w0.heap.size 2 A ts.length (ts.flatMap cellsT)) :
    Calls Try.prog 95 #[.pointer (some ⟨g2, 0, none⟩), .slice A ts.length c] W fun o W' => o = .returned (.int .i64 (errV R.fails)) ∧ ∃ R', RSync R ts R' ∧ St w0 g1 g2 b5 a D R' W' := by
  obtain ⟨F1, F2, hpv, hk, n1, n2⟩ := h
  obtain ⟨_, _, _, _, hd⟩ := hpv.refd
  have hlog : R.log.length = D0.log.length := by have := congrArg List.length hal.log; simpa using this.symm
  refine (rsync_any hd (by rw [hal.len]; exact hal.pos) (by rw [hal.len]; have := hal.le; omega) (by rw [← hal.nx]; have := hal.nl; omega) (by have := hal.bl; omega) (by rw [← hal.wait]; have := hal.wl; omega) (by rw [hlog]; have := hal.ll; omega) (by rw [← hal.wait, hal.len]; exact fun x hx => (hal.okw x hx).1) A c ts (by omega) (readsPast hr hpv.below hpv.base2)).mono ?_
  rintro o W' (⟨f, rfl, ht⟩ | ⟨f, rfl, A', c', ht⟩)
  · exact ⟨by rw [f]; rfl, _, .inl ⟨f, rfl⟩, St.turnR hpv hk n1 n2 ht⟩
  · exact ⟨by rw [f]; rfl, _, .inr ⟨f, A', c', rfl⟩, St.turnR hpv hk n1 n2 ht⟩
theorem St.dfail (h : St w0 g1 g2 b5 a D R W) (hp : 0 < D.safe.length) (A : Option Addr) (c : Nat) (l : List Int) (hl : l.length ≤ 50) (hok : ∀ x ∈ l, okI x) (hr : Reads w0 w0.heap.size 1 A l.length (iz l)) :
    Calls Try.prog 54 #[.pointer (some ⟨g1, 0, none⟩), .slice A l.length c] W fun o W' => o = .returned (.tuple #[]) ∧ St w0 g1 g2 b5 a (D.fail l) R W' := by
  obtain ⟨F1, F2, hpv, hk, n1, n2⟩ := h
  obtain ⟨_, _, _, _, hd⟩ := hpv.disk
  refine (fail_any hd hp A c l (by omega) hok (readsPast hr hpv.below hpv.base1)).mono ?_
  rintro o W' ⟨rfl, ht⟩
  exact ⟨rfl, St.turnD hpv hk n1 n2 ht⟩
theorem St.rfail (h : St w0 g1 g2 b5 a D R W) (A : Option Addr) (c : Nat) (l : List Int) (hl : l.length ≤ 50) (hr : Reads w0 w0.heap.size 1 A l.length (iz l)) :
    Calls Try.prog 97 #[.pointer (some ⟨g2, 0, none⟩), .slice A l.length c] W fun o W' => o = .returned (.tuple #[]) ∧ St w0 g1 g2 b5 a D (R.fail l) W' := by
  obtain ⟨F1, F2, hpv, hk, n1, n2⟩ := h
  obtain ⟨_, _, _, _, hd⟩ := hpv.refd
  refine (rfail_any hd A c l (by omega) (readsAt hr hpv.below)).mono ?_
  rintro o W' ⟨rfl, ht⟩
  exact ⟨rfl, St.turnR hpv hk n1 n2 ht⟩
theorem St.dread (h : St w0 g1 g2 b5 a D R W) (hp : 0 < D.safe.length) (hw : D.wait.length ≤ 1000) (at_ : Int) :
    Calls Try.prog 50 #[.pointer (some ⟨g1, 0, none⟩), .int .i64 at_] W fun o W' => o = .returned (.tuple #[.agg (cellsS (D.read at_).1).toArray, .int .i64 (D.read at_).2]) ∧ St w0 g1 g2 b5 a D R W' := by
  have h0 := h
  obtain ⟨F1, F2, hpv, hk, n1, n2⟩ := h
  obtain ⟨_, _, _, _, hd⟩ := hpv.disk
  refine (read_any hd at_ hp hw).mono ?_
  rintro o W' ⟨rfl, hb⟩
  exact ⟨rfl, h0.grow hb⟩
theorem St.rread (h : St w0 g1 g2 b5 a D R W) (hw : R.wait.length ≤ 1000) (at_ : Int) :
    Calls Try.prog 98 #[.pointer (some ⟨g2, 0, none⟩), .int .i64 at_] W fun o W' => o = .returned (.tuple #[.agg (cellsS (R.read at_).1).toArray, .int .i64 (R.read at_).2]) ∧ St w0 g1 g2 b5 a D R W' := by
  have h0 := h
  obtain ⟨F1, F2, hpv, hk, n1, n2⟩ := h
  obtain ⟨_, _, _, _, hd⟩ := hpv.refd
  refine (rread_any hd at_ hw).mono ?_
  rintro o W' ⟨rfl, hb⟩
  exact ⟨rfl, h0.grow hb⟩
end
end Go.Proofs.Ytikhhipgamllgaa
