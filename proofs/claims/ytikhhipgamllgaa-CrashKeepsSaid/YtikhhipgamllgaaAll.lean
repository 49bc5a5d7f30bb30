/- crash.All and Count. Conditions: few writes. -/
import Derived.Test.YtikhhipgamllgaaEachC
import Derived.Maps.AppendAt
namespace Go.Proofs.Ytikhhipgamllgaa
open Go.RowKit Go.Shelf
attribute [local go_sem] Oper.semAt_some
def uz (l : List Nat) : List Value := l.map fun x => .int .u64 (x : Nat)
theorem uz_len (l : List Nat) : (uz l).length = l.length := by simp [uz]
theorem uz_snoc (l : List Nat) (x : Nat) : uz l ++ [.int .u64 (x : Nat)] = uz (l ++ [x]) := by simp [uz]
theorem info22' : (Try.prog.info? 22).map (fun i => (i.zero, i.size, i.bytes)) = some (some (.int .u64 0), 1, 8) := by kernel_rfl
/-- all choices that are allowed -/
def chs (n : Nat) (t : Bool) (es : List Int) : List Nat := chK n t es (cnt n t)
def allL (n : Nat) (t : Bool) (es : List Int) (most : Int) : List Nat := if 8 < n then [] else (chs n t es).take most.toNat
def allB (n : Nat) (t : Bool) (es : List Int) (most : Int) : Bool := if 8 < n then false else decide ((chs n t es).length ≤ most.toNat)
def GotAll (w : World) (l : List Nat) (ok : Bool) (o : Ending) (w' : World) : Prop :=
  ∃ v, o = .returned (.tuple #[v, .bool ok]) ∧ w'.ownsRow w.heap.size 22 1 v l.length (uz l) ∧ Below w.heap.size w w'
theorem each_stops (a b : Nat) (bn bt be : Nat) (n c : Nat) (t : Bool) (A : Option Addr) (es : List Int) (w : World) (hn8 : n ≤ 8) (hbn : b ≤ bn) (hbt : b ≤ bt) (hbe : b ≤ be)
    (h1 : Blk w bn 3 #[.int .i64 n]) (h2 : Blk w bt 4 #[.bool t]) (h3 : Blk w be 33 #[.slice A es.length c]) (ho : w.ownsRow b 3 1 (.slice A es.length c) es.length (iz es)) (ha : a ≤ b) :
    SeqStopsK Fence.wide 4 Try.prog 109 #[.pointer (some ⟨bn, 0, none⟩), .pointer (some ⟨bt, 0, none⟩), .pointer (some ⟨be, 0, none⟩)] (fun x : Nat => #[Value.int .u64 (x : Nat)]) (KeepB a b w.heap.size) (fun ys => ys = chs n t es) (fun pre => pre <+: chs n t es) (chs n t es).length w := fun l J Jx W hW _ _ hY h0 =>
  each1_in a b w.heap.size l bn bt be n c t A es J Jx W hn8 hY ⟨hbn, h1.lt⟩ ⟨hbt, h2.lt⟩ ⟨hbe, h3.lt⟩
    ((h1.below hW h1.lt).cell 0) ((h2.below hW h2.lt).cell 0) ((h3.below hW h3.lt).cell 0)
    (fun W' hk => by
      have h4 : KeepB a b w.heap.size w W' := (KeepB.of_below hW (Nat.le_trans ha (Nat.le_trans hbn (Nat.le_of_lt h1.lt)))).trans hk
      exact h4.own rfl ho) h0
/-- between two rounds: what All's own variables hold -/
def AllI (w : World) (e : Nat) (most : Int) (pre : List Nat) (W : World) : Prop :=
  (∃ A c, Boxed W (w.heap.size + 1 + 1 + 1 + 1) 51 (.slice A pre.length c) ∧ W.ownsRow e 22 1 (.slice A pre.length c) pre.length (uz pre)) ∧ Boxed W (w.heap.size + 1) 3 (.int .i64 most) ∧
    Boxed W (w.heap.size + 1 + 1) 51 (.slice none 0 0) ∧ Boxed W (w.heap.size + 1 + 1 + 1) 4 (.bool false) ∧ Below w.heap.size w W ∧ pre.length ≤ most.toNat ∧ e ≤ W.heap.size
/-- where a round has returned -/
def AllX (w : World) (e : Nat) (most : Int) (c : Code) (pre : List Nat) (W : World) : Prop :=
  c = .ret ∧ (∃ A c, Boxed W (w.heap.size + 1 + 1) 51 (.slice A pre.dropLast.length c) ∧ W.ownsRow e 22 1 (.slice A pre.dropLast.length c) pre.dropLast.length (uz pre.dropLast)) ∧
    Boxed W (w.heap.size + 1 + 1 + 1) 4 (.bool false) ∧ Below w.heap.size w W ∧ pre.length = most.toNat + 1
theorem boxed_turn {A B : World} {row : Option Nat} {e g : Nat} {t : TypeId} {v : Value} (h : Boxed A g t v) (hg : A.grownBy B row) (hr : ∀ r, row = some r → e ≤ r ∧ ∃ o : Obj, A.heap[r]? = some o ∧ o.isCells = false) : Boxed B g t v :=
  h.kept hg fun e' => by
    obtain ⟨_, o, ho, hc⟩ := hr g e'.symm
    rw [show A.heap[g]? = _ from h] at ho; cases ho; cases hc
theorem row_turn {A B : World} {row : Option Nat} {e base size n : Nat} {t : TypeId} {v : Value} {xs : List Value} (h : A.ownsRow base t size v n xs) (hg : A.grownBy B row) (hr : ∀ r, row = some r → e ≤ r ∧ ∃ o : Obj, A.heap[r]? = some o ∧ o.isCells = false) : B.ownsRow base t size v n xs := by
  refine h.kept hg ?_
  rcases h.2 with ⟨rfl, _⟩ | ⟨g, cap, cur, rfl, _, hgb, _⟩
  · exact .inl rfl
  · refine .inr fun e' => ?_
    obtain ⟨_, o, ho, hc⟩ := hr g (by simpa [Value.ownBlock] using e'.symm)
    rw [hgb] at ho; cases ho; cases hc
theorem below_turn {w A B : World} {row : Option Nat} {e : Nat} (h : Below w.heap.size w A) (hle : w.heap.size ≤ e) (hg : A.grownBy B row) (hr : ∀ r, row = some r → e ≤ r ∧ ∃ o : Obj, A.heap[r]? = some o ∧ o.isCells = false) : Below w.heap.size w B :=
  h.grown hg h.size fun k hk => Nat.le_trans hle (hr k hk).1
theorem allI_own (w : World) (e : Nat) (most : Int) (hle : w.heap.size ≤ e) : OwnFrom e (AllI w e most) := fun _ _ _ _ ⟨⟨a, c, h1, h2⟩, h3, h4, h5, h6, h7, h8⟩ hg hr =>
  ⟨⟨a, c, boxed_turn h1 hg hr, row_turn h2 hg hr⟩, boxed_turn h3 hg hr, boxed_turn h4 hg hr, boxed_turn h5 hg hr, below_turn h6 hle hg hr, h7, Nat.le_trans h8 hg.size⟩
theorem allX_own (w : World) (e : Nat) (most : Int) (hle : w.heap.size ≤ e) (c : Code) : OwnFrom e (AllX w e most c) := fun _ _ _ _ ⟨h0, ⟨a, c, h1, h2⟩, h5, h6, h7⟩ hg hr =>
  ⟨h0, ⟨a, c, boxed_turn h1 hg hr, row_turn h2 hg hr⟩, boxed_turn h5 hg hr, below_turn h6 hle hg hr, h7⟩
theorem boxed_far {W : World} {g b : Nat} {t : TypeId} {v : Value} (h : Boxed W g t v) (hne : g ≠ b) (u : Value) : Boxed (W.setCell ⟨b, 0, none⟩ u) g t v := (Below.heap_setCell W ⟨b, 0, none⟩ u g hne).trans h
theorem row_far {W : World} {base n b : Nat} {e t : TypeId} {v u : Value} {xs : List Value} (h : W.ownsRow base e 1 v n xs) (hb : Boxed W b t u) (hne : e ≠ t) (u' : Value) : (W.setCell ⟨b, 0, none⟩ u').ownsRow base e 1 v n xs :=
  ownsRow_setCell_other h (p := ⟨b, 0, none⟩) (own_blk_ne h (show Blk W b t #[u] from hb) hne)
theorem all_stop {w W : World} {e : Nat} {most : Int} {pre : List Nat} (x : Nat) {A : Option Addr} {c : Nat} {r : Value} {k : Value} (k2 : W.ownsRow e 22 1 (.slice A pre.length c) pre.length (uz pre))
    (k4 : Boxed W (w.heap.size + 1 + 1) 51 r) (k5 : Boxed W (w.heap.size + 1 + 1 + 1) 4 k) (k6 : Below w.heap.size w W) (k7 : pre.length ≤ most.toNat) (hst : most ≤ (pre.length : Int)) :
    AllX w e most .ret (pre ++ [x]) ((W.setCell ⟨w.heap.size + 1 + 1, 0, none⟩ (.slice A pre.length c)).setCell ⟨w.heap.size + 1 + 1 + 1, 0, none⟩ (.bool false)) := by
  have k5' := boxed_far k5 (b := w.heap.size + 1 + 1) (by omega) (.slice A pre.length c)
  refine ⟨rfl, ⟨A, c, ?_, ?_⟩, k5'.set _, (k6.setCell (p := ⟨w.heap.size + 1 + 1, 0, none⟩) (by show w.heap.size ≤ w.heap.size + 1 + 1; omega) _).setCell (p := ⟨w.heap.size + 1 + 1 + 1, 0, none⟩) (by show w.heap.size ≤ w.heap.size + 1 + 1 + 1; omega) _, ?_⟩
  · rw [List.dropLast_concat]; exact boxed_far (k4.set _) (by omega) _
  · rw [List.dropLast_concat]; exact row_far (row_far k2 k4 (by decide) _) k5' (by decide) _
  · simp; omega
theorem all_push {w W w2 : World} {e : Nat} {most : Int} {pre : List Nat} {x : Nat} {A : Option Addr} {c g' cap' : Nat} {tmp : Obj} (k1 : Boxed W (w.heap.size + 1 + 1 + 1 + 1) 51 (.slice A pre.length c)) (k2 : W.ownsRow e 22 1 (.slice A pre.length c) pre.length (uz pre))
    (k3 : Boxed W (w.heap.size + 1) 3 (.int .i64 most)) (k4 : Boxed W (w.heap.size + 1 + 1) 51 (.slice none 0 0)) (k5 : Boxed W (w.heap.size + 1 + 1 + 1) 4 (.bool false)) (k6 : Below w.heap.size w W) (k8 : e ≤ W.heap.size) (he : w.heap.size + 1 + 1 + 1 + 1 + 1 ≤ e)
    (hgo : (pre.length : Int) < most) (hown : w2.ownsRow e 22 1 (.slice (some ⟨g', 0, none⟩) (pre.length + 1) cap') (pre.length + 1) (uz pre ++ [.int .u64 (x : Nat)])) (hg : (W.alloc tmp).grownBy w2 (Value.slice A pre.length c).ownBlock) :
    KeepsFrom e W (w2.setCell ⟨w.heap.size + 1 + 1 + 1 + 1, 0, none⟩ (.slice (some ⟨g', 0, none⟩) (pre.length + 1) cap')) ∧ KeepB w.heap.size (w.heap.size + 1 + 1 + 1 + 1 + 1) e W (w2.setCell ⟨w.heap.size + 1 + 1 + 1 + 1, 0, none⟩ (.slice (some ⟨g', 0, none⟩) (pre.length + 1) cap')) ∧
      AllI w e most (pre ++ [x]) (w2.setCell ⟨w.heap.size + 1 + 1 + 1 + 1, 0, none⟩ (.slice (some ⟨g', 0, none⟩) (pre.length + 1) cap')) := by
  have hrow : ∀ k, (Value.slice A pre.length c).ownBlock = some k → e ≤ k := fun k hk => (k2.lt k hk).1
  have far : ∀ {g : Nat} {t : TypeId} {u : Value}, Boxed W g t u → g < e → Boxed w2 g t u := fun h hlt => (h.alloc tmp).kept hg (fun e' => by have := hrow _ e'.symm; omega)
  have v1 := far k1 (by omega)
  have v3 := far k3 (by omega)
  have v4 := far k4 (by omega)
  have v5 := far k5 (by omega)
  have hw2 : W.heap.size ≤ w2.heap.size := by have := hg.size; simp at this; omega
  have hb2 : Below e W w2 := ((Below.refl e W).alloc k8 tmp).grown hg (by simp; omega) hrow
  refine ⟨?_, ?_, ⟨some ⟨g', 0, none⟩, cap', ?_, ?_⟩, boxed_far v3 (by omega) _, boxed_far v4 (by omega) _, boxed_far v5 (by omega) _, ?_, ?_, ?_⟩
  · refine (((KeepsOthers.alloc W tmp).trans (KeepsOthers.of_grownBy hg fun j o ej hj => ?_)).trans (KeepsOthers.setCell _ _ _)).from _
    rcases (k2.alloc tmp).2 with ⟨h0, _⟩ | ⟨g, cap, cur, h0, _, hgb, _⟩
    · rw [h0] at ej; simp [Value.ownBlock] at ej
    · rw [h0] at ej
      obtain rfl : g = j := by simpa [Value.ownBlock] using ej
      rw [hgb] at hj; cases hj; rfl
  · intro j hj
    rw [Below.heap_setCell _ _ _ j (by show j ≠ w.heap.size + 1 + 1 + 1 + 1; omega)]
    exact hb2.block j (by omega)
  · rw [List.length_append]; exact v1.set _
  · rw [List.length_append, ← uz_snoc]; exact row_far hown v1 (by decide) _
  · exact (k6.trans (hb2.mono (by omega))).setCell (p := ⟨w.heap.size + 1 + 1 + 1 + 1, 0, none⟩) (by show w.heap.size ≤ w.heap.size + 1 + 1 + 1 + 1; omega) _
  · simp; omega
  · simp; omega
theorem all_end {w W : World} {D : Nat} {A : Option Addr} {c : Nat} {l : List Nat} {ok : Bool} {tmps : Array Value} (h6 : tmps[6]?.getD undef = .pointer (some ⟨w.heap.size + 1 + 1, 0, none⟩)) (h7 : tmps[7]?.getD undef = .pointer (some ⟨w.heap.size + 1 + 1 + 1, 0, none⟩))
    (k4 : Boxed W (w.heap.size + 1 + 1) 51 (.slice A l.length c)) (k5 : Boxed W (w.heap.size + 1 + 1 + 1) 4 (.bool ok)) (k2 : W.ownsRow w.heap.size 22 1 (.slice A l.length c) l.length (uz l)) (k6 : Below w.heap.size w W) (hK : W.heap[D]? = some (.deferred (some []))) (hD : w.heap.size ≤ D) :
    ∃ v, (results Try.f37 tmps).run Try.prog (W.putObj D (.deferred none)) = .ok v (W.putObj D (.deferred none)) ∧ GotAll w l ok (.returned v) (W.putObj D (.deferred none)) := by
  have hg := grownBy_putObj' W D (.deferred none)
  have hr : ∀ r, some D = some r → w.heap.size ≤ r ∧ ∃ o : Obj, W.heap[r]? = some o ∧ o.isCells = false := fun r e => by cases e; exact ⟨hD, _, hK, rfl⟩
  have c4 := (boxed_turn k4 hg hr).cell
  have c5 := (boxed_turn k5 hg hr).cell
  refine ⟨.tuple #[.slice A l.length c, .bool ok], ?_, _, rfl, row_turn k2 hg hr, below_turn k6 (Nat.le_refl _) hg hr⟩
  simp [results, h6, h7, go_sem, c4, c5]
theorem all_stopL {n : Nat} {t : Bool} {es : List Int} {most : Int} {pre : List Nat} (hn : n ≤ 8) (hp : pre <+: chs n t es) (hl : pre.length = most.toNat + 1) : allL n t es most = pre.dropLast ∧ allB n t es most = false := by
  have h1 := hp.length_le
  unfold allL allB
  rw [if_neg (by omega), if_neg (by omega), decide_eq_false (by omega)]
  refine ⟨?_, rfl⟩
  have h2 := List.prefix_iff_eq_take.1 hp
  rw [List.dropLast_eq_take, hl, Nat.add_sub_cancel]
  obtain ⟨r, hr⟩ := hp
  rw [← hr, List.take_append_of_le_length (by omega)]
set_option maxRecDepth 100000 in
set_option maxHeartbeats 2000000 in
theorem all_few (S : Value) (A : Option Addr) (c : Nat) (ws : List Wr) (t : Bool) (most : Int) (w : World) (hn : ws.length ≤ 8) (hr : Reads w w.heap.size 36 A ws.length (ws.flatMap cellsW)) :
    Calls Try.prog 37 #[.agg #[S, .slice A ws.length c], .bool t, .int .i64 most] w (GotAll w (allL ws.length t (eps ws) most) (allB ws.length t (eps ws) most)) := by
  have CE := fun (W : World) (hb : Below w.heap.size w W) => each_any S A c ws t W (by omega) ((hr.below hb).more hb.size)
  have hne : (eps ws).length = ws.length := eps_len ws
  obtain ⟨n, hnn⟩ : ∃ n, n = ws.length := ⟨_, rfl⟩
  obtain ⟨es, hes⟩ : ∃ es, es = eps ws := ⟨_, rfl⟩
  rw [← hnn, ← hes] at CE ⊢
  rw [← hnn] at hn hne
  rw [← hes] at hne
  have HCE := Lib.hid CE
  have HNE := Lib.hid hne
  clear hnn hr CE hes hne
  obtain ⟨i0, hi, hz0, hz1, hz2⟩ := info_parts info22'
  have HI := Lib.hid hi
  have HZ0 := Lib.hid hz0
  have HZ1 := Lib.hid hz1
  have HZ2 := Lib.hid hz2
  clear hi hz0 hz1 hz2
  refine (callsIn_wide (n := 5)).1 ?_
  refine callsIn_of_wp_marks Try.func37 rfl trivial ?_ rfl
  simp only [Try.ntmps37, List.size_toArray, List.length_cons, List.length_nil, Nat.reduceAdd, Nat.reduceSub, Array.replicate_succ, Array.replicate_zero, List.push_toArray, List.append_toArray, List.nil_append, List.cons_append]
  have hd8 : decide ((8 : Int) < n) = false := by simp; omega
  gi_wp2_with fail
  obtain ⟨w5, h5⟩ : ∃ w5, ((((w.alloc (.cells #[S, .slice A n c] 44)).alloc (.cells #[.int .i64 most] 3)).alloc (.cells #[.slice none 0 0] 51)).alloc (.cells #[.bool false] 4)).alloc (.cells #[.slice none 0 0] 51) = w5 := ⟨_, rfl⟩
  have hs5 : w5.heap.size = w.heap.size + 1 + 1 + 1 + 1 + 1 := by rw [← h5]; simp
  have hb5 : Below w.heap.size w w5 := by rw [← h5]; exact (((((Below.refl _ w).alloc (Nat.le_refl _) _).alloc (by simp) _).alloc (by simp; omega) _).alloc (by simp; omega) _).alloc (by simp; omega) _
  have b1 : Boxed w5 (w.heap.size + 1) 3 (.int .i64 most) := by
    rw [← h5]; have := (((Boxed.new (w.alloc (.cells #[S, .slice A n c] 44)) 3 (.int .i64 most)).alloc (.cells #[.slice none 0 0] 51)).alloc (.cells #[.bool false] 4)).alloc (.cells #[.slice none 0 0] 51); simpa using this
  have b2 : Boxed w5 (w.heap.size + 1 + 1) 51 (.slice none 0 0) := by
    rw [← h5]; have := ((Boxed.new ((w.alloc (.cells #[S, .slice A n c] 44)).alloc (.cells #[.int .i64 most] 3)) 51 (.slice none 0 0)).alloc (.cells #[.bool false] 4)).alloc (.cells #[.slice none 0 0] 51); simpa using this
  have b3 : Boxed w5 (w.heap.size + 1 + 1 + 1) 4 (.bool false) := by
    rw [← h5]; have := (Boxed.new (((w.alloc (.cells #[S, .slice A n c] 44)).alloc (.cells #[.int .i64 most] 3)).alloc (.cells #[.slice none 0 0] 51)) 4 (.bool false)).alloc (.cells #[.slice none 0 0] 51); simpa using this
  have b4 : Boxed w5 (w.heap.size + 1 + 1 + 1 + 1) 51 (.slice none 0 0) := by
    rw [← h5]; have := Boxed.new ((((w.alloc (.cells #[S, .slice A n c] 44)).alloc (.cells #[.int .i64 most] 3)).alloc (.cells #[.slice none 0 0] 51)).alloc (.cells #[.bool false] 4)) 51 (.slice none 0 0); simpa using this
  rw [h5]
  clear h5
  refine ⟨trivial, (callsIn_wide.2 (HCE.out w5 hb5)).mono ?_⟩
  rintro e w1 ⟨gn, gt, ge, A1, c1, rfl, ⟨hgn, hgt, hge⟩, kn, kt, ke, hown, hb1⟩
  gi_wp2
  have hs1 : w5.heap.size ≤ w1.heap.size := hb1.size
  have hle : w.heap.size ≤ w1.heap.size := by omega
  have m1 : Boxed w1 (w.heap.size + 1) 3 (.int .i64 most) := (hb1.block _ b1.lt).trans b1
  have m2 : Boxed w1 (w.heap.size + 1 + 1) 51 (.slice none 0 0) := (hb1.block _ b2.lt).trans b2
  have m3 : Boxed w1 (w.heap.size + 1 + 1 + 1) 4 (.bool false) := (hb1.block _ b3.lt).trans b3
  have m4 : Boxed w1 (w.heap.size + 1 + 1 + 1 + 1) 51 (.slice none 0 0) := (hb1.block _ b4.lt).trans b4
  have hbw : Below w.heap.size w w1 := hb5.trans (hb1.mono (by omega))
  have hst := each_stops w.heap.size w5.heap.size gn gt ge n c1 t A1 es w1 hn hgn hgt hge kn kt (by rw [HNE.out]; exact ke) (by rw [HNE.out]; exact hown) (by omega)
  refine wpIn_rangeFunc_ownG rfl (by omega) (gf := 109) (lb := #[.pointer (some ⟨gn, 0, none⟩), .pointer (some ⟨gt, 0, none⟩), .pointer (some ⟨ge, 0, none⟩)]) rfl trivial (enters_of Try.func109 (by kernel_rfl) rfl)
    hst (fun h k => h.trans k) (KeepB.put hle (Nat.le_refl _)) (Below.refl _ _) (fun _ => rfl)
    (AllI w w1.heap.size most) (AllX w w1.heap.size most) (allI_own w _ most hle) (allX_own w _ most hle)
    ⟨⟨none, 0, m4, World.ownsRow_nil _ _ _ _⟩, m1, m2, m3, hbw, Nat.zero_le _, Nat.le_refl _⟩
    (fun x => { tmps := #[.agg #[S, .slice A n c], .bool t, .int .i64 most, .pointer (some ⟨w.heap.size, 0, none⟩), undef, .pointer (some ⟨w.heap.size + 1, 0, none⟩), .pointer (some ⟨w.heap.size + 1 + 1, 0, none⟩), .pointer (some ⟨w.heap.size + 1 + 1 + 1, 0, none⟩), .pointer (some ⟨w.heap.size + 1 + 1 + 1 + 1, 0, none⟩), .int .u64 (x : Nat), .pointer (some ⟨w.heap.size, 1, none⟩), .slice A n c, .int .i64 n, .bool false, .agg #[S, .slice A n c], .bool t, .func (.func 109) #[] #[.pointer (some ⟨gn, 0, none⟩), .pointer (some ⟨gt, 0, none⟩), .pointer (some ⟨ge, 0, none⟩)], .int .u64 (x : Nat), undef, undef, undef, undef, undef, undef, undef, undef, undef, undef], defers := [] }) ?assign ?body ?done ?stop
  case assign =>
    intro l x W K hK
    gi_wp2
    exact hK
  case body =>
    rintro l pre x W ⟨⟨Ao, co, k1, k2⟩, k3, k4, k5, k6, k7, k8⟩ hlt
    have hc1 := k1.cell
    have hc3 := k3.cell
    have hc4 := k4.cell
    have hf4 := k4.frozen
    have hc5 := k5.cell
    have hf5 := k5.frozen
    have hf1 := k1.frozen
    have H1 := Lib.hid k1
    have H2 := Lib.hid k2
    have H3 := Lib.hid k3
    have H4 := Lib.hid k4
    have H5 := Lib.hid k5
    have H6 := Lib.hid k6
    have H7 := Lib.hid k7
    have H8 := Lib.hid k8
    have HS5 := Lib.hid hs5
    clear k1 k2 k3 k4 k5 k6 k7 k8 hs5
    by_cases hstop : most ≤ (pre.length : Int)
    · gi_wp2
      exact ⟨((KeepsOthers.setCell _ _ _).trans (KeepsOthers.setCell _ _ _)).from _, all_stop x H2.out H4.out H5.out H6.out H7.out hstop⟩
    · have hpl : pre.length < 6561 := Nat.lt_of_lt_of_le hlt (Nat.le_trans (chK_len _ _ _ _) (cnt_le n t hn))
      gi_wp2_with (gi_at_builtin; go_must (refine wpListIn_append_own _ rfl _ _ 51 rfl w1.heap.size 22 i0 (.int .u64 0) 1 8 Try.underlying51 HI.out HZ0.out HZ1.out HZ2.out rfl (by decide) (.slice Ao pre.length co) _ _ rfl (H2.out.alloc _) ⟨W.heap.size, 0, none⟩ 1 1 [.int .u64 (x : Nat)] rfl rfl (cell_one_new _ _ _) (by simp [Value.oneCell']) (by unfold maxLen; omega) (by omega) (by have := H8.out; simp; omega) ?_; intro v' w2 hown' hgrow _; obtain ⟨g', cap', rfl⟩ := ownsRow_succ hown'; have hv1 : Boxed w2 (w.heap.size + 1 + 1 + 1 + 1) 51 (.slice Ao pre.length co) := (H1.out.alloc _).kept hgrow (H1.out.not_row (by decide) H2.out); have hc8 := hv1.cell; have hf8 := hv1.frozen))
      have hP := all_push H1.out H2.out H3.out H4.out H5.out H6.out H8.out (by have := HS5.out; omega) (by omega) hown' hgrow
      rw [← HS5.out] at hP
      exact hP
  case done =>
    rintro D ys W hD rfl ⟨⟨Ao, co, k1, k2⟩, k3, k4, k5, k6, k7, k8⟩ hK
    have hc1 := k1.cell
    have hc4 := k4.cell
    have hf4 := k4.frozen
    have hc5 := k5.cell
    have hf5 := k5.frozen
    have hl : allL n t es most = chs n t es := by unfold allL; rw [if_neg (by omega), List.take_of_length_le k7]
    have hb : allB n t es most = true := by unfold allB; rw [if_neg (by omega), decide_eq_true k7]
    have HL := Lib.hid hl
    have HBB := Lib.hid hb
    have H2 := Lib.hid k2
    have H4 := Lib.hid k4
    have H5 := Lib.hid k5
    have H6 := Lib.hid k6
    clear hl hb k1 k2 k3 k4 k5 k6 k7 k8
    gi_wp2
    have hK' := ((KeepsOthers.setCell W ⟨w.heap.size + 1 + 1, 0, none⟩ (.slice Ao (chs n t es).length co)).trans (KeepsOthers.setCell _ ⟨w.heap.size + 1 + 1 + 1, 0, none⟩ (.bool true))).same D _ hK rfl
    refine ⟨by simp, .inl ⟨_, _, rfl, run_takeDeferred hK', ?_⟩⟩
    have k5' := boxed_far H5.out (b := w.heap.size + 1 + 1) (by omega) (.slice Ao (chs n t es).length co)
    rw [HL.out, HBB.out]
    exact all_end rfl rfl (boxed_far (H4.out.set _) (by omega) _) (k5'.set _) (own_base (row_far (row_far H2.out H4.out (by decide) _) k5' (by decide) _) hle) ((H6.out.setCell (p := ⟨w.heap.size + 1 + 1, 0, none⟩) (by show w.heap.size ≤ w.heap.size + 1 + 1; omega) _).setCell (p := ⟨w.heap.size + 1 + 1 + 1, 0, none⟩) (by show w.heap.size ≤ w.heap.size + 1 + 1 + 1; omega) _) hK' (Nat.le_trans hle hD)
  case stop =>
    rintro D c' pre W hD hpre ⟨rfl, ⟨Ao, co, k1, k2⟩, k3, k6, k7⟩ hK
    gi_wp2
    refine ⟨by simp, .inl ⟨_, _, rfl, run_takeDeferred hK, ?_⟩⟩
    obtain ⟨e1, e2⟩ := all_stopL hn hpre k7
    rw [e1, e2]
    exact all_end rfl rfl k1 k3 (own_base k2 hle) k6 hK (Nat.le_trans hle hD)
set_option maxRecDepth 100000 in
set_option maxHeartbeats 2000000 in
theorem all_many (S : Value) (A : Option Addr) (n c : Nat) (t : Bool) (es : List Int) (most : Int) (w : World) (hn : 8 < n) :
    Calls Try.prog 37 #[.agg #[S, .slice A n c], .bool t, .int .i64 most] w (GotAll w (allL n t es most) (allB n t es most)) := by
  have hl : allL n t es most = [] := by unfold allL; rw [if_pos hn]
  have hb : allB n t es most = false := by unfold allB; rw [if_pos hn]
  rw [hl, hb]
  clear hl hb
  have hd8 : decide ((8 : Int) < n) = true := by simp; omega
  go_enter Try.func37, Try.ntmps37
  go_wp2
  refine bodyPost_ret (v := .tuple #[.slice none 0 0, .bool false]) (by simp [results, go_sem]) rfl ⟨_, rfl, World.ownsRow_nil _ _ _ _, ?_⟩
  exact ((((Below.refl _ w).alloc (Nat.le_refl _) _).alloc (by simp) _).alloc (by simp; omega) _).alloc (by simp; omega) _
theorem all_any (S : Value) (A : Option Addr) (c : Nat) (ws : List Wr) (t : Bool) (most : Int) (w : World) (hr : Reads w w.heap.size 36 A ws.length (ws.flatMap cellsW)) :
    Calls Try.prog 37 #[.agg #[S, .slice A ws.length c], .bool t, .int .i64 most] w (GotAll w (allL ws.length t (eps ws) most) (allB ws.length t (eps ws) most)) := by
  rcases Nat.lt_or_ge 8 ws.length with h | h
  · exact all_many S A ws.length c t (eps ws) most w h
  · exact all_few S A c ws t most w h hr
set_option maxHeartbeats 1000000 in
/-- crash.Count -/
theorem ccount_any (S : Value) (A : Option Addr) (c : Nat) (ws : List Wr) (t : Bool) (most : Int) (w : World) (hr : Reads w w.heap.size 36 A ws.length (ws.flatMap cellsW)) :
    Calls Try.prog 39 #[.agg #[S, .slice A ws.length c], .bool t, .int .i64 most] w fun o w' => o = .returned (.tuple #[.int .i64 (allL ws.length t (eps ws) most).length, .bool (allB ws.length t (eps ws) most)]) ∧ Below w.heap.size w w' := by
  have HR := Lib.hid hr
  clear hr
  go_enter Try.func39, Try.ntmps39
  go_wp2_with fail
  refine (all_any S A c ws t most _ ((HR.out.alloc (Nat.le_refl _) _).more (by simp))).mono ?_
  rintro o w1 ⟨v, rfl, hown, hb⟩
  obtain ⟨A1, c1, rfl, _⟩ := own_slice hown
  have HB := Lib.hid hb
  clear hown hb
  go_wp2_with fail
  go_ret2
  exact ⟨rfl, below_box' HB.out⟩
end Go.Proofs.Ytikhhipgamllgaa
