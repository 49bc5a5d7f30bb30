/- sector.Spread. Conditions: few bytes. -/
import Derived.Test.YtikhhipgamllgaaDoorIn
import Derived.Maps.AppendAt
namespace Go.Proofs.YtikhhipgamllgaaDoor
open Go.RowKit Go.Shelf
attribute [local go_sem] Oper.semAt_some
/-- one chunk, and all of them -/
def chB (bs : List Int) (x : Nat) : List Int := (bs.drop (32 * x)).take 32
def chS (bs : List Int) (x : Nat) : Sec := ofS (chB bs x)
def spr (bs : List Int) : List Sec := (List.range (chN bs.length)).map (chS bs)
theorem spr_len (bs : List Int) : (spr bs).length = chN bs.length := by simp [spr]
theorem chB_len (bs : List Int) (x : Nat) : (chB bs x).length = min 32 (bs.length - 32 * x) := by simp [chB, List.length_take, List.length_drop]
theorem reads_ch {W : World} {B : Nat} {A : Option Addr} {bs : List Int} (h : Reads W B 1 A bs.length (ub bs)) (x : Nat) : Reads W B 1 (A.map (·.add (32 * x))) (chB bs x).length (ub (chB bs x)) := by
  refine ⟨by rw [ub_len, Nat.mul_one], fun hn => ?_⟩
  rw [chB_len] at hn
  obtain ⟨ad, rfl, hb, hc⟩ := h.2 (by omega)
  refine ⟨ad.add (32 * x), rfl, by rw [block_of_add]; exact hb, fun j u hu => ?_⟩
  rw [add_of_add]
  refine hc _ u ?_
  unfold chB at hu
  rw [ub_take, ub_drop, List.getElem?_take] at hu
  split at hu
  · rw [List.getElem?_drop] at hu; exact hu
  · cases hu
theorem info34z : ∃ i, Tryd.prog.info? 34 = some i ∧ i.zero = some (.agg (cellsS zeroS).toArray) ∧ i.size = 32 ∧ i.bytes = 32 := info_parts info34'
/-- between two rounds -/
def SpI (w : World) (e : Nat) (bs : List Int) (pre : List Nat) (W : World) : Prop :=
  (∃ A c, Boxed W w.heap.size 23 (.slice A pre.length c) ∧ W.ownsRow e 34 32 (.slice A pre.length c) pre.length ((pre.map (chS bs)).flatMap cellsS)) ∧ Below w.heap.size w W ∧ e ≤ W.heap.size
theorem boxed_turn {A B : World} {row : Option Nat} {e g : Nat} {t : TypeId} {v : Value} (h : Boxed A g t v) (hg : A.grownBy B row) (hr : ∀ r, row = some r → e ≤ r ∧ ∃ o : Obj, A.heap[r]? = some o ∧ o.isCells = false) : Boxed B g t v :=
  h.kept hg fun e' => by
    obtain ⟨_, o, ho, hc⟩ := hr g e'.symm
    rw [show A.heap[g]? = _ from h] at ho; cases ho; cases hc
theorem row_turn {A B : World} {row : Option Nat} {e base size n : Nat} {t : TypeId} {v : Value} {xs : List Value} (h : A.ownsRow base t size v n xs) (hg : A.grownBy B row) (hr : ∀ r, row = some r → e ≤ r ∧ ∃ o : Obj, A.heap[r]? = some o ∧ o.isCells = false) : B.ownsRow base t size v n xs := by
  refine h.kept hg ?_
  rcases h.2 with ⟨rfl, _⟩ | ⟨g, cap, cur, rfl, _, hgb, _⟩
  · exact .inl rfl
  · refine .inr fun e' => ?_
    obtain ⟨_, o, ho, hc⟩ := hr g (by simpa [Value.ownBlock] using e'.symm)
    rw [hgb] at ho; cases ho; cases hc
theorem below_turn {w A B : World} {row : Option Nat} {e : Nat} (h : Below w.heap.size w A) (hle : w.heap.size ≤ e) (hg : A.grownBy B row) (hr : ∀ r, row = some r → e ≤ r ∧ ∃ o : Obj, A.heap[r]? = some o ∧ o.isCells = false) : Below w.heap.size w B :=
  h.grown hg h.size fun k hk => Nat.le_trans hle (hr k hk).1
theorem spI_own (w : World) (e : Nat) (bs : List Int) (hle : w.heap.size ≤ e) : OwnFrom e (SpI w e bs) := fun _ _ _ _ ⟨⟨a, c, h1, h2⟩, h6, h8⟩ hg hr =>
  ⟨⟨a, c, boxed_turn h1 hg hr, row_turn h2 hg hr⟩, below_turn h6 hle hg hr, Nat.le_trans h8 hg.size⟩
theorem boxed_far {W : World} {g b : Nat} {t : TypeId} {v : Value} (h : Boxed W g t v) (hne : g ≠ b) (u : Value) : Boxed (W.setCell ⟨b, 0, none⟩ u) g t v := (Below.heap_setCell W ⟨b, 0, none⟩ u g hne).trans h
theorem row_far {W : World} {base size n b : Nat} {e t : TypeId} {v u : Value} {xs : List Value} (h : W.ownsRow base e size v n xs) (hb : Boxed W b t u) (hne : e ≠ t) (u' : Value) : (W.setCell ⟨b, 0, none⟩ u').ownsRow base e size v n xs :=
  ownsRow_setCell_other h (a := ⟨b, 0, none⟩) (own_blk_ne h (show Blk W b t #[u] from hb) hne) u'
theorem grown_below {W W' : World} (h : Below W.heap.size W W') : W.grownBy W' none := ⟨h.os, h.tape, h.output, h.size, fun k hk _ => h.block k hk⟩
theorem others_below {W W' : World} (h : Below W.heap.size W W') : KeepsOthers W W' := ⟨h.size, fun k _ hk _ => (h.block k (Array.getElem?_eq_some_iff.1 hk).1).trans hk⟩
theorem spr_push {w W W2 w2 : World} {e : Nat} {bs : List Int} {pre : List Nat} {x : Nat} {A : Option Addr} {c g' cap' : Nat} (he : w.heap.size + 1 ≤ e)
    (k1 : Boxed W w.heap.size 23 (.slice A pre.length c)) (k2 : W.ownsRow e 34 32 (.slice A pre.length c) pre.length ((pre.map (chS bs)).flatMap cellsS)) (k6 : Below w.heap.size w W) (k8 : e ≤ W.heap.size)
    (hb : Below W.heap.size W W2) (hown : w2.ownsRow e 34 32 (.slice (some ⟨g', 0, none⟩) (pre.length + 1) cap') (pre.length + 1) ((pre.map (chS bs)).flatMap cellsS ++ cellsS (chS bs x))) (hg : W2.grownBy w2 (Value.slice A pre.length c).ownBlock) :
    KeepsFrom e W (w2.setCell ⟨w.heap.size, 0, none⟩ (.slice (some ⟨g', 0, none⟩) (pre.length + 1) cap')) ∧ KeepB w.heap.size (w.heap.size + 1) e W (w2.setCell ⟨w.heap.size, 0, none⟩ (.slice (some ⟨g', 0, none⟩) (pre.length + 1) cap')) ∧
      SpI w e bs (pre ++ [x]) (w2.setCell ⟨w.heap.size, 0, none⟩ (.slice (some ⟨g', 0, none⟩) (pre.length + 1) cap')) := by
  have hrow : ∀ k, (Value.slice A pre.length c).ownBlock = some k → e ≤ k := fun k hk => (k2.lt k hk).1
  have v1 : Boxed w2 w.heap.size 23 (.slice A pre.length c) := (k1.kept (grown_below hb) (fun e' => by cases e')).kept hg (fun e' => by have := hrow _ e'.symm; omega)
  have hs2 : W2.heap.size ≤ w2.heap.size := hg.size
  have hs1 : W.heap.size ≤ W2.heap.size := hb.size
  have hb2 : Below e W w2 := (hb.mono k8).grown hg (by omega) hrow
  refine ⟨?_, ?_, ⟨some ⟨g', 0, none⟩, cap', ?_, ?_⟩, ?_, ?_⟩
  · refine (((others_below hb).trans (KeepsOthers.of_grownBy hg fun j o ej hj => ?_)).trans (KeepsOthers.setCell _ _ _)).from _
    rcases (own_keep k2 (grown_below hb)).2 with ⟨h0, _⟩ | ⟨g, cap, cur, h0, _, hgb, _⟩
    · rw [h0] at ej; simp [Value.ownBlock] at ej
    · rw [h0] at ej
      obtain rfl : g = j := by simpa [Value.ownBlock] using ej
      rw [hgb] at hj; cases hj; rfl
  · intro j hj
    rw [Below.heap_setCell _ _ _ j (by show j ≠ w.heap.size; omega)]
    exact hb2.block j (by omega)
  · rw [List.length_append]; exact v1.set _
  · rw [List.length_append, List.map_append, List.flatMap_append]
    have := row_far hown v1 (by decide) (.slice (some ⟨g', 0, none⟩) (pre.length + 1) cap')
    simpa using this
  · exact (k6.trans (hb2.mono (by omega))).setCell (p := ⟨w.heap.size, 0, none⟩) (Nat.le_refl _) _
  · simp; omega
theorem chunk_stops (a b : Nat) (bS bn : Nat) (n c : Nat) (A : Option Addr) (w : World) (hn8 : n ≤ 1000) (hnc : n ≤ c) (hA : 0 < n → ∃ ad, A = some ad) (hbn : b ≤ bn) (hbs : b ≤ bS)
    (h1 : Blk w bS 22 #[.slice A n c]) (h2 : Blk w bn 3 #[.int .i64 32]) :
    SeqStopsK Fence.wide 4 Tryd.prog 26 #[.pointer (some ⟨bS, 0, none⟩), .pointer (some ⟨bn, 0, none⟩)] (chE A n) (KeepB a b w.heap.size) (fun ys => ys = List.range (chN n)) (fun _ => True) (chN n) w := fun l J Jx W hW hJ _ hY h0 =>
  chunk1_in a b w.heap.size l bS bn n c A J Jx W hn8 hnc hA hY ⟨hbn, h2.lt⟩ ⟨hbs, h1.lt⟩ ((h1.below hW h1.lt).cell 0) ((h2.below hW h2.lt).cell 0) h0 (fun pre W1 h => hJ pre W1 W1.drew none h (grown_below ⟨rfl, rfl, rfl, Nat.le_refl _, fun _ _ => rfl⟩) (fun r e => by cases e))
set_option maxRecDepth 100000 in
set_option maxHeartbeats 2000000 in
theorem spread_any (A : Option Addr) (c : Nat) (bs : List Int) (w : World) (hn : bs.length ≤ 1000) (hnc : bs.length ≤ c) (hr : Reads w w.heap.size 1 A bs.length (ub bs)) :
    Calls Tryd.prog 9 #[.slice A bs.length c] w (GotRow w 34 32 (spr bs).length ((spr bs).flatMap cellsS)) := by
  obtain ⟨n, hnn⟩ : ∃ n, n = bs.length := ⟨_, rfl⟩
  have HR := Lib.hid hr
  have HN := Lib.hid hnn
  have hA : 0 < n → ∃ ad, A = some ad := fun h => by obtain ⟨ad, e, _⟩ := hr.2 (by omega); exact ⟨ad, e⟩
  have HA := Lib.hid hA
  have HCN : Hid (chN n ≤ 32) := Lib.hid (by unfold chN; omega)
  rw [← hnn] at hn hnc ⊢
  clear hr hnn hA
  obtain ⟨i34, hi, hz0, hz1, hz2⟩ := info34z
  have HI := Lib.hid hi
  have HZ0 := Lib.hid hz0
  have HZ1 := Lib.hid hz1
  have HZ2 := Lib.hid hz2
  clear hi hz0 hz1 hz2
  refine (callsIn_wide (n := 5)).1 ?_
  refine callsIn_of_wp_marks Tryd.func9 rfl trivial ?_ rfl
  simp only [Tryd.ntmps9, List.size_toArray, List.length_cons, List.length_nil, Nat.reduceAdd, Nat.reduceSub, Array.replicate_succ, Array.replicate_zero, List.push_toArray, List.append_toArray, List.nil_append, List.cons_append]
  gi_wp2_with fail
  refine ⟨trivial, (callsIn_wide.2 (chunk_any A n c _)).mono ?_⟩
  rintro e w1 ⟨rfl, rfl⟩
  gi_wp2
  obtain ⟨w1, h1⟩ : ∃ w1, ((w.alloc (.cells #[.slice none 0 0] 23)).alloc (.cells #[.slice A n c] 22)).alloc (.cells #[.int .i64 32] 3) = w1 := ⟨_, rfl⟩
  have hs1 : w1.heap.size = w.heap.size + 1 + 1 + 1 := by rw [← h1]; simp
  have hbw : Below w.heap.size w w1 := by rw [← h1]; exact (((Below.refl _ w).alloc (Nat.le_refl _) _).alloc (by simp) _).alloc (by simp; omega) _
  have b0 : Boxed w1 w.heap.size 23 (.slice none 0 0) := by rw [← h1]; exact ((Boxed.new w 23 _).alloc _).alloc _
  have b1 : Blk w1 (w.heap.size + 1) 22 #[.slice A n c] := by
    rw [← h1]; have := (Blk.new (w.alloc (.cells #[.slice none 0 0] 23)) 22 #[.slice A n c]).alloc (.cells #[.int .i64 32] 3); simpa using this
  have b2 : Blk w1 (w.heap.size + 1 + 1) 3 #[.int .i64 32] := by
    rw [← h1]; have := Blk.new ((w.alloc (.cells #[.slice none 0 0] 23)).alloc (.cells #[.slice A n c] 22)) 3 #[.int .i64 32]; simpa using this
  rw [h1]
  clear h1
  have hst := chunk_stops w.heap.size (w.heap.size + 1) (w.heap.size + 1) (w.heap.size + 1 + 1) n c A w1 hn hnc HA.out (by omega) (Nat.le_refl _) b1 b2
  refine wpIn_rangeFunc_ownG rfl (by omega) (gf := 26) (lb := #[.pointer (some ⟨w.heap.size + 1, 0, none⟩), .pointer (some ⟨w.heap.size + 1 + 1, 0, none⟩)]) rfl trivial (enters_of Tryd.func26 (by kernel_rfl) rfl)
    hst (fun h k => h.trans k) (KeepB.put (by omega) (Nat.le_refl _)) (Below.refl _ _) (fun _ => rfl)
    (SpI w w1.heap.size bs) (fun _ _ _ => False) (spI_own w _ bs (by omega)) (fun _ _ _ _ _ h _ _ => h.elim)
    ⟨⟨none, 0, b0, World.ownsRow_nil _ _ _ _⟩, hbw, Nat.le_refl _⟩
    (fun x => { tmps := #[.slice A n c, undef, .slice none 0 0, .pointer (some ⟨w.heap.size, 0, none⟩), .slice (A.map (·.add (32 * x))) (min 32 (n - 32 * x)) (min 32 (n - 32 * x)), undef, undef, .slice A n c, .func (.func 26) #[] #[.pointer (some ⟨w.heap.size + 1, 0, none⟩), .pointer (some ⟨w.heap.size + 1 + 1, 0, none⟩)], .slice (A.map (·.add (32 * x))) (min 32 (n - 32 * x)) (min 32 (n - 32 * x)), undef, undef, undef, undef, undef, undef, undef, undef, undef, undef], defers := [] }) ?assign ?body ?done ?stop
  case assign =>
    intro l x W K hK
    simp only [chE]
    gi_wp2
    exact hK
  case body =>
    rintro l pre x W ⟨⟨Ao, co, k1, k2⟩, k6, k8⟩ hlt
    have hof := fun (W' : World) (hb' : Below W.heap.size W W') => of_any (A.map (·.add (32 * x))) (min 32 (n - 32 * x)) (chB bs x) W' (by rw [chB_len]; omega) (((reads_ch HR.out x).below (k6.trans (hb'.mono k6.size))).more (Nat.le_trans k6.size hb'.size))
    rw [chB_len, ← HN.out] at hof
    obtain ⟨m, hm⟩ : ∃ m, m = min 32 (n - 32 * x) := ⟨_, rfl⟩
    obtain ⟨A', hA'⟩ : ∃ A', A' = A.map (·.add (32 * x)) := ⟨_, rfl⟩
    rw [← hm, ← hA'] at hof ⊢
    have HOF := Lib.hid (hof W (Below.refl _ W))
    have HPL : Hid (pre.length < 32) := Lib.hid (Nat.lt_of_lt_of_le hlt HCN.out)
    have H1 := Lib.hid k1
    have H2 := Lib.hid k2
    have H6 := Lib.hid k6
    have H8 := Lib.hid k8
    have HS1 := Lib.hid hs1
    clear k1 k2 k6 k8 hs1 hof hm hA' hlt
    gi_wp2_with fail
    refine ⟨trivial, (CallsIn.inRound l (callsIn_wide.2 HOF.out)).mono ?_⟩
    rintro e W1 ⟨rfl, hbl⟩
    obtain ⟨W2, hW2⟩ : ∃ W2, W1.alloc (.cells (cellsS (chS bs x)).toArray 34) = W2 := ⟨_, rfl⟩
    have hst := store34 W1 (chS bs x) zeroS
    rw [hW2] at hst
    have hs2 : W1.heap.size + 1 = W2.heap.size := by rw [← hW2]; simp
    have hb2 : Below W.heap.size W W2 := by rw [← hW2]; exact hbl.alloc hbl.size _
    have hblk : Blk W2 W1.heap.size 34 (cellsS (chS bs x)).toArray := by rw [← hW2]; exact Blk.new W1 34 _
    have HBK := Lib.hid hblk
    have HB2 := Lib.hid hb2
    have hx1 : Boxed W2 w.heap.size 23 (.slice Ao pre.length co) := H1.out.kept (grown_below hb2) (fun e' => by cases e')
    have HX1 := Lib.hid hx1
    have HX2 := Lib.hid (own_keep H2.out (grown_below hb2))
    have HST := Lib.hid hst
    have hc1 := hx1.cell
    have hAP : ∀ j u, (cellsS (chS bs x))[j]? = some u → (W2.alloc (.cells (cellsS (chS bs x)).toArray 34)).cell? ((⟨W2.heap.size, 0, none⟩ : Addr).add j) = some u := fun j u hu => by
      rw [Addr.add_mid, Nat.zero_add]; exact (Blk.new W2 34 _).list hu
    have HAP := Lib.hid hAP
    have HE8 : Hid (w1.heap.size ≤ (W2.alloc (.cells (cellsS (chS bs x)).toArray 34)).heap.size) := Lib.hid (by have := H8.out; have := hb2.size; simp; omega)
    have HLN : Hid ((cellsS (chS bs x)).length = 1 * 32) := Lib.hid (cellsS_len _)
    clear hbl hW2 hst hs2 hb2 hblk hx1 hAP
    gi_wp2_with (first
      | (with_reducible show wpListIn _ _ _ _ _ (Oper.mk _ (Op.alloc 34) _ _ _ _ :: _) _ _; go_must (refine wpListIn_alloc rfl rfl (alloc34 W1) ?_))
      | (with_reducible show wpListIn _ _ _ _ _ (Oper.mk _ (Op.store 34 _ _) _ _ _ _ :: _) _ _; go_must (refine wpListIn_store (X := .pointer (some ⟨W1.heap.size, 0, none⟩)) (Y := .agg (cellsS (chS bs x)).toArray) rfl rfl rfl rfl HST.out ?_))
      | (with_reducible show wpListIn _ _ _ _ _ (Oper.mk _ (Op.load 34 _) _ _ _ _ :: _) _ _; go_must (refine wpListIn_load (b := W1.heap.size) (i := 0) (cs := cellsS (chS bs x)) rfl rfl rfl (range0 HBK.out) Tryd.underlying34 rfl (by rw [cellsS_len]; exact info34) ?_))
      | (with_reducible show wpListIn _ _ _ _ _ (Oper.mk _ (Op.buildSlice _ _ _) _ _ _ _ :: _) _ _; go_must (refine wpListIn_bld1 (X := .agg (cellsS (chS bs x)).toArray) rfl rfl rfl (bldS (chS bs x) W2) ?_))
      | (gi_at_builtin; go_must (refine wpListIn_append_own _ rfl _ _ 23 rfl w1.heap.size 34 i34 (.agg (cellsS zeroS).toArray) 32 32 Tryd.underlying23 HI.out HZ0.out HZ1.out HZ2.out rfl (by decide) (.slice Ao pre.length co) _ _ rfl (HX2.out.alloc _) ⟨W2.heap.size, 0, none⟩ 1 1 (cellsS (chS bs x)) rfl HLN.out HAP.out (cellsS_one _) (by unfold maxLen; have := HPL.out; omega) (by have := HPL.out; omega) HE8.out ?_; intro v' w2 hown' hgrow _; obtain ⟨g', cap', rfl⟩ := ownsRow_succ hown'; have hv1 : Boxed w2 w.heap.size 23 (.slice Ao pre.length co) := (HX1.out.alloc _).kept hgrow (HX1.out.not_row (by decide) HX2.out); have hc8 := hv1.cell; have hf8 := hv1.frozen; clear hv1)))
    exact spr_push (by have := HS1.out; omega) H1.out H2.out H6.out H8.out (HB2.out.alloc HB2.out.size _) hown' hgrow
  case done =>
    rintro D ys W hD rfl ⟨⟨Ao, co, k1, k2⟩, k6, k8⟩ hK
    have hc1 := k1.cell
    have H2 := Lib.hid k2
    have H6 := Lib.hid k6
    clear k1 k2 k6 k8
    gi_wp2
    have hg := grownBy_putObj' W D (.deferred none)
    have hr : ∀ r, some D = some r → w.heap.size ≤ r ∧ ∃ o : Obj, W.heap[r]? = some o ∧ o.isCells = false := fun r e => by cases e; exact ⟨by omega, _, hK, rfl⟩
    refine ⟨by simp, .inl ⟨_, _, rfl, run_takeDeferred hK, ?_⟩⟩
    refine ⟨.slice Ao (chN n) co, by simp [results, Tryd.f9, go_sem], _, rfl, ?_, below_turn H6.out (Nat.le_refl _) hg hr⟩
    have h2 := H2.out
    rw [List.length_range] at h2
    rw [spr_len, ← HN.out]
    have e : spr bs = (List.range (chN n)).map (chS bs) := by unfold spr; rw [← HN.out]
    rw [e]
    exact row_turn (own_base h2 (by omega)) hg hr
  case stop =>
    rintro D c' pre W hD hpre h hK
    exact h.elim
end Go.Proofs.YtikhhipgamllgaaDoor
