/- (*Disk).Read of a sector that is there: the loop over the writes, from the last. Conditions: few writes. -/
import Derived.Test.YtikhhipgamllgaaRdI
namespace Go.Proofs.Ytikhhipgamllgaa
open Go.RowKit Go.Shelf
attribute [local go_sem] Oper.semAt_some
theorem blk_turn {A B : World} {row : Option Nat} {e g : Nat} {t : TypeId} {cs : Array Value} (h : Blk A g t cs) (hg : A.grownBy B row) (hr : ∀ r, row = some r → e ≤ r ∧ ∃ o : Obj, A.heap[r]? = some o ∧ o.isCells = false) : Blk B g t cs :=
  h.grown hg fun e' => by
    obtain ⟨_, o, ho, hc⟩ := hr g e'.symm
    rw [show A.heap[g]? = _ from h] at ho; cases ho; cases hc
/-- between two rounds -/
def RdI (w : World) (e : Nat) (at_ : Int) (ws : List Wr) (pre : List Nat) (W : World) : Prop :=
  Boxed W w.heap.size 3 (.int .i64 at_) ∧ Blk W (w.heap.size + 1) 66 (cellsS zeroSec).toArray ∧ Boxed W (w.heap.size + 1 + 1) 61 (.int .i64 0) ∧ Below w.heap.size w W ∧ (∀ y ∈ pre, (ws.getD y zeroWr).at_ ≠ at_) ∧ e ≤ W.heap.size
/-- where a round has returned -/
def RdX (w : World) (at_ : Int) (ws : List Wr) (c : Code) (pre : List Nat) (W : World) : Prop :=
  c = .ret ∧ ∃ p0 x, pre = p0 ++ [x] ∧ Blk W (w.heap.size + 1) 66 (cellsS (ws.getD x zeroWr).s).toArray ∧ Boxed W (w.heap.size + 1 + 1) 61 (.int .i64 0) ∧ Below w.heap.size w W ∧ (ws.getD x zeroWr).at_ = at_ ∧ ∀ y ∈ p0, (ws.getD y zeroWr).at_ ≠ at_
theorem rdI_own (w : World) (at_ : Int) (ws : List Wr) (e : Nat) (hle : w.heap.size ≤ e) : OwnFrom e (RdI w e at_ ws) := fun _ _ _ _ ⟨h1, h2, h3, h4, h5, h6⟩ hg hr =>
  ⟨boxed_turn h1 hg hr, blk_turn h2 hg hr, boxed_turn h3 hg hr, below_turn h4 hle hg hr, h5, Nat.le_trans h6 hg.size⟩
theorem rdX_own (w : World) (at_ : Int) (ws : List Wr) (e : Nat) (hle : w.heap.size ≤ e) (c : Code) : OwnFrom e (RdX w at_ ws c) := fun _ _ _ _ ⟨h0, p0, x, h1, h2, h3, h4, h5, h6⟩ hg hr =>
  ⟨h0, p0, x, h1, blk_turn h2 hg hr, boxed_turn h3 hg hr, below_turn h4 hle hg hr, h5, h6⟩
theorem rd_found {ws : List Wr} {at_ : Int} {p0 : List Nat} {x : Nat} (hp : p0 ++ [x] <+: rv ws.length 0) (hx : (ws.getD x zeroWr).at_ = at_) (h0 : ∀ y ∈ p0, (ws.getD y zeroWr).at_ ≠ at_) : lastAt ws at_ = some (ws.getD x zeroWr).s := by
  obtain ⟨r, hr⟩ := hp
  have hmem : x ∈ rv ws.length 0 := by rw [← hr]; simp
  have hxl : x < ws.length := by
    unfold rv at hmem
    simpa using hmem
  have hsplit : rv ws.length 0 = rv ws.length (x + 1) ++ ([x] ++ ((List.range ws.length).take x).reverse) := by
    have h1 : rv ws.length 0 = rv ws.length x ++ ((List.range ws.length).take x).reverse := by
      unfold rv
      rw [← List.reverse_append, List.take_append_drop, List.drop_zero]
    rw [h1, rv_step hxl, List.append_assoc]
  have hp0 : p0 = rv ws.length (x + 1) := by
    have e1 : p0 ++ (x :: r) = rv ws.length (x + 1) ++ (x :: ((List.range ws.length).take x).reverse) := by
      rw [← List.append_cons, ← List.append_assoc] at *
      have := hr.trans hsplit
      simpa using this
    have hn1 : x ∉ p0 := fun h => h0 x h hx
    have hn2 : x ∉ rv ws.length (x + 1) := fun h => by
      unfold rv at h
      rw [List.mem_reverse] at h
      obtain ⟨i, hi, he⟩ := List.getElem_of_mem h
      rw [List.getElem_drop, List.getElem_range] at he
      omega
    have key : ∀ (a b c d : List Nat), x ∉ a → x ∉ b → a ++ (x :: c) = b ++ (x :: d) → a = b := by
      intro a
      induction a with
      | nil =>
        intro b c d _ hb h
        cases b with
        | nil => rfl
        | cons y b => simp at h; simp [h.1] at hb
      | cons y a ih =>
        intro b c d ha hb h
        cases b with
        | nil => simp at h; simp [h.1] at ha
        | cons z b =>
          simp at h ha hb
          rw [h.1, ih b c d ha.2 hb.2 h.2]
    exact key _ _ _ _ hn1 hn2 e1
  refine lastAt_some (x := x) ?_ hx ?_
  · rw [List.getD_eq_getElem?_getD, List.getElem?_eq_getElem hxl]; rfl
  · intro j z hj hz
    have hjl : j < ws.length := (List.getElem?_eq_some_iff.1 hz).1
    have := h0 j (by
      rw [hp0]
      unfold rv
      rw [List.mem_reverse]
      refine List.mem_iff_getElem?.2 ⟨j - (x + 1), ?_⟩
      rw [List.getElem?_drop, show x + 1 + (j - (x + 1)) = j by omega, List.getElem?_range hjl])
    rw [List.getD_eq_getElem?_getD, hz] at this
    exact this
theorem rd_none {ws : List Wr} {at_ : Int} (h0 : ∀ y ∈ rv ws.length 0, (ws.getD y zeroWr).at_ ≠ at_) : lastAt ws at_ = none := by
  refine lastAt_none fun z hz => ?_
  obtain ⟨i, hi, rfl⟩ := List.getElem_of_mem hz
  have := h0 i (by unfold rv; simpa using hi)
  rwa [List.getD_eq_getElem?_getD, List.getElem?_eq_getElem hi] at this
def RdA (w : World) (g : Nat) (at_ : Int) (A : Option Addr) (n c : Nat) (ws : List Wr) (bs e : Nat) (x : Nat) (a : Act) (W : World) : Prop :=
  ∃ b, e ≤ b ∧ Blk W b 108 (cellsW (ws.getD x zeroWr)).toArray ∧ a = { tmps := #[.pointer (some ⟨g, 0, none⟩), .int .i64 at_, undef, .pointer (some ⟨w.heap.size, 0, none⟩), .pointer (some ⟨w.heap.size + 1, 0, none⟩), .pointer (some ⟨w.heap.size + 1 + 1, 0, none⟩), undef, .pointer (some ⟨b, 0, none⟩), .pointer (some ⟨g, 0, none⟩), .int .i64 at_, .bool true, .bool false, undef, .pointer (some ⟨g, 0, none⟩), .pointer (some ⟨g, 0, none⟩), .pointer (some ⟨g, 3, none⟩), .slice A n c, .func (.func 112) #[] #[.pointer (some ⟨bs, 0, none⟩)], .int .i64 (x : Nat), .agg (cellsW (ws.getD x zeroWr)).toArray, undef, undef, undef, undef, undef, undef, undef, undef, undef, undef, undef, undef, undef], defers := [] }
theorem rdA_own (w : World) (g : Nat) (at_ : Int) (A : Option Addr) (n c : Nat) (ws : List Wr) (bs e : Nat) (x : Nat) (a : Act) : OwnFrom e (fun (_ : Unit) W => RdA w g at_ A n c ws bs e x a W) := fun _ _ _ _ ⟨b, h1, h2, h3⟩ hg hr => ⟨b, h1, blk_turn h2 hg hr, h3⟩
theorem rd_end {w W : World} {r : Sec} {tmps : Array Value} {D : Nat} (h4 : tmps.getD 4 undef = .pointer (some ⟨w.heap.size + 1, 0, none⟩)) (h5 : tmps.getD 5 undef = .pointer (some ⟨w.heap.size + 1 + 1, 0, none⟩))
    (k4 : Blk W (w.heap.size + 1) 66 (cellsS r).toArray) (k5 : Boxed W (w.heap.size + 1 + 1) 61 (.int .i64 0)) (k6 : Below w.heap.size w W) (hK : W.heap[D]? = some (.deferred (some []))) (hD : w.heap.size ≤ D) :
    ∃ v, (results Try.f50 tmps).run Try.prog (W.putObj D (.deferred none)) = .ok v (W.putObj D (.deferred none)) ∧ ReadTo w (r, 0) (.returned v) (W.putObj D (.deferred none)) := by
  have hg := grownBy_putObj' W D (.deferred none)
  have hr : ∀ r, some D = some r → w.heap.size ≤ r ∧ ∃ o : Obj, W.heap[r]? = some o ∧ o.isCells = false := fun r e => by cases e; exact ⟨hD, _, hK, rfl⟩
  exact ⟨_, results_two (P := Try.prog) rfl _ _ (w.heap.size + 1) (w.heap.size + 1 + 1) 66 _ _ (.int .i64 0) h4 h5 (blk_turn k4 hg hr) Try.underlying66 rfl (by rw [List.size_toArray, cellsS_len]; exact info66) (lv61 (boxed_turn k5 hg hr).cell), rfl, below_turn k6 (Nat.le_refl _) hg hr⟩
section
variable {w : World} {F : Nat → Prop} {g : Nat} {D : Dk} {bv sv wv lv : Value}
set_option maxRecDepth 100000 in
set_option maxHeartbeats 4000000 in
theorem read_in (h : DiskV w F g D bv sv wv lv) (at_ : Int) (hs : 0 < D.safe.length) (hw : D.wait.length ≤ 1000) (hi : atIn at_ D.safe.length = true) :
    Calls Try.prog 50 #[.pointer (some ⟨g, 0, none⟩), .int .i64 at_] w (ReadTo w ((lastAt D.wait at_).getD (D.safe.getD at_.toNat zeroSec), 0)) := by
  obtain ⟨w3, h3⟩ : ∃ w3, ((w.alloc (.cells #[.int .i64 at_] 3)).alloc (.cells (cellsS zeroSec).toArray 66)).alloc (.cells #[.int .i64 0] 61) = w3 := ⟨_, rfl⟩
  have hs3 : w3.heap.size = w.heap.size + 1 + 1 + 1 := by rw [← h3]; simp
  have hb3 : Below w.heap.size w w3 := by rw [← h3]; exact (((Below.refl _ w).alloc (Nat.le_refl _) _).alloc (by simp) _).alloc (by simp; omega) _
  have b0 : Boxed w3 w.heap.size 3 (.int .i64 at_) := by rw [← h3]; exact ((Boxed.new w 3 _).alloc _).alloc _
  have b1 : Blk w3 (w.heap.size + 1) 66 (cellsS zeroSec).toArray := by
    rw [← h3]; have := (Blk.new (w.alloc (.cells #[.int .i64 at_] 3)) 66 (cellsS zeroSec).toArray).alloc (.cells #[.int .i64 0] 61); simpa using this
  have b2 : Boxed w3 (w.heap.size + 1 + 1) 61 (.int .i64 0) := by
    rw [← h3]; have := Boxed.new ((w.alloc (.cells #[.int .i64 at_] 3)).alloc (.cells (cellsS zeroSec).toArray 66)) 61 (.int .i64 0); simpa using this
  have hd3 := h.below hb3
  have HCH := hasat_any hd3 hs at_
  rw [hi] at HCH
  obtain ⟨A, c, rfl, hr⟩ := own_slice h.wait.1
  obtain ⟨SA, sc, rfl, hrs⟩ := own_slice h.safe.1
  have hc3 : w3.cell? ⟨g, 3, none⟩ = some (.slice A D.wait.length c) := hd3.blk.cell 3
  have hat : 0 ≤ at_ ∧ at_ < D.safe.length := by simpa [atIn] using hi
  obtain ⟨j, rfl⟩ := Int.eq_ofNat_of_zero_le hat.1
  have hjl : j < D.safe.length := by omega
  obtain ⟨sb, so, rfl, hsb, hsit⟩ := hrs.item (f := cellsS) cellsS_len (by omega) hjl
  have hsj := hsit j _ (show D.safe[j]? = some (D.safe.getD j zeroSec) by rw [List.getD_eq_getElem?_getD, List.getElem?_eq_getElem hjl]; rfl)
  obtain ⟨sj, hsje⟩ : ∃ s, s = D.safe.getD j zeroSec := ⟨_, rfl⟩
  have hbk := h.blk
  have hglt := hbk.lt
  rw [Int.toNat_natCast]
  rw [← hsje] at hsj ⊢
  obtain ⟨ws, hws⟩ : ∃ ws, ws = D.wait := ⟨_, rfl⟩
  rw [← hws] at hr hc3 hw hbk ⊢
  obtain ⟨n, hn⟩ : ∃ n, n = ws.length := ⟨_, rfl⟩
  rw [← hn] at hr hc3 hw hbk
  obtain ⟨m, hm⟩ : ∃ m, m = D.safe.length := ⟨_, rfl⟩
  rw [← hm] at hjl hbk
  have HN := Lib.hid hn
  have HR := Lib.hid hr
  have HC := Lib.hid HCH
  have HB3 := Lib.hid hb3
  have HS3 := Lib.hid hs3
  have HBK := Lib.hid hbk
  have HGL := Lib.hid hglt
  have HSJ := Lib.hid hsj
  have HSB := Lib.hid hsb
  have HJL := Lib.hid hjl
  clear h hs hi hd3 HCH hr hrs hat hsit hsj hsb hsje hbk hglt hn hm hjl hws hs3
  have hc0 := b0.cell
  refine (callsIn_wide (n := 5)).1 ?_
  refine callsIn_of_wp_marks Try.func50 rfl trivial ?_ rfl
  simp only [Try.ntmps50, List.size_toArray, List.length_cons, List.length_nil, Nat.reduceAdd, Nat.reduceSub, Array.replicate_succ, Array.replicate_zero, List.push_toArray, List.append_toArray, List.nil_append, List.cons_append]
  gi_wp2_with (with_reducible show wpListIn _ _ _ _ _ (Oper.mk _ (Op.alloc 66) _ _ _ _ :: _) _ _; go_must (refine wpListIn_alloc (V := .pointer (some ⟨(w.alloc (.cells #[.int .i64 (j : Int)] 3)).heap.size, 0, none⟩)) rfl rfl (by kernel_rfl : (Instr.alloc 66 true (.tuple #[])).run Try.prog _ = .ok _ ((w.alloc (.cells #[.int .i64 (j : Int)] 3)).alloc (.cells (cellsS zeroSec).toArray 66))) ?_))
  clear h3
  refine ⟨trivial, (callsIn_wide.2 HC.out).mono ?_⟩
  rintro e w' ⟨rfl, e2⟩
  obtain rfl := e2.symm
  gi_wp2_with fail
  refine ⟨trivial, (callsIn_wide.2 (backward_any A n c w3)).mono ?_⟩
  rintro e w' ⟨rfl, rfl⟩
  gi_wp2
  obtain ⟨w1, hw1⟩ : ∃ w1, w3.alloc (.cells #[.slice A n c] 41) = w1 := ⟨_, rfl⟩
  have hs1' : w1.heap.size = w3.heap.size + 1 := by rw [← hw1]; simp
  have hb1 : Below w3.heap.size w3 w1 := by rw [← hw1]; exact (Below.refl _ w3).alloc (Nat.le_refl _) _
  have kb : Blk w1 w3.heap.size 41 #[.slice A n c] := by rw [← hw1]; exact Blk.new w3 41 _
  have hbw : Below w.heap.size w w1 := HB3.out.trans (hb1.mono HB3.out.size)
  have m0 : Boxed w1 w.heap.size 3 (.int .i64 (j : Int)) := (hb1.block _ b0.lt).trans b0
  have m1 : Blk w1 (w.heap.size + 1) 66 (cellsS zeroSec).toArray := b1.below hb1 b1.lt
  have m2 : Boxed w1 (w.heap.size + 1 + 1) 61 (.int .i64 0) := (hb1.block _ b2.lt).trans b2
  have hle : w.heap.size ≤ w1.heap.size := hbw.size
  have hle3 : w.heap.size ≤ w3.heap.size := HB3.out.size
  have hs1 := Lib.hid hs1'
  rw [hw1]
  clear hs1' hw1 b0 b1 b2 hc0 hc3
  have hst := back_stops w.heap.size w3.heap.size w3.heap.size n c A ws w1 hw HN.out (Nat.le_refl _) hle3 kb (HR.out.below hbw)
  refine wpIn_rangeFunc_ownH rfl (by omega) (gf := 112) (lb := #[.pointer (some ⟨w3.heap.size, 0, none⟩)]) rfl trivial (enters_of Try.func112 (by kernel_rfl) rfl)
    hst (fun h k => h.trans k) (KeepB.put hle (Nat.le_refl _)) (Below.refl _ _) (fun _ => rfl)
    (RdI w w1.heap.size j ws) (RdX w j ws) (rdI_own w _ ws _ hle) (rdX_own w _ ws _ hle)
    ⟨m0, m1, m2, hbw, fun _ h => (by cases h), Nat.le_refl _⟩
    (RdA w g j A n c ws w3.heap.size w1.heap.size) (rdA_own w g j A n c ws w3.heap.size w1.heap.size) ?assign ?body ?done ?stop
  case assign =>
    rintro l pre x W K ⟨k0, k1, k2, k6, k7, k8⟩ hK
    simp only [bkE]
    have H0 := Lib.hid k0
    have H1 := Lib.hid k1
    have H2 := Lib.hid k2
    have H6 := Lib.hid k6
    have H7 := Lib.hid k7
    have H8 := Lib.hid k8
    obtain ⟨y, hy⟩ : ∃ y, y = ws.getD x zeroWr := ⟨_, rfl⟩
    have HY := Lib.hid hy
    have HK := Lib.hid hK
    rw [← hy]
    clear hy k0 k1 k2 k6 k7 k8 hK m0 m1 m2
    simp only [List.zip_toArray, List.zip_cons_cons, List.zip_nil_right, List.foldl_toArray, List.foldl_cons, List.foldl_nil, List.setIfInBounds_toArray, List.set_cons_succ, List.set_cons_zero]
    gi_wp2_with (first | (with_reducible show wpListIn _ _ _ _ _ (Oper.mk _ (Op.alloc 108) _ _ _ _ :: _) _ _; go_must (refine wpListIn_alloc rfl rfl (alloc108 W) ?_)) | (with_reducible show wpListIn _ _ _ _ _ (Oper.mk _ (Op.store 108 _ _) _ _ _ _ :: _) _ _; go_must (refine wpListIn_store (X := .pointer (some ⟨W.heap.size, 0, none⟩)) (Y := .agg (cellsW y).toArray) rfl rfl rfl rfl (store108 W y zeroWr) ?_)))
    refine HK.out _ _ ((KeepsOthers.alloc W _).from _) (fun k hk => Below.heap_alloc W _ k (by have := H8.out; have := hle; rcases hk with hk | hk <;> omega)) ?_ ⟨W.heap.size, H8.out, ?_, ?_⟩
    · exact ⟨H0.out.alloc _, H1.out.alloc _, H2.out.alloc _, H6.out.alloc H6.out.size _, H7.out, by have := H8.out; simp; omega⟩
    · rw [← HY.out]; exact Blk.new W 108 _
    · rw [← HY.out]; rfl
  case body =>
    rintro l pre x a' W hl hrec ⟨k0, k1, k2, k6, k7, k8⟩ ⟨b, hb, kb, rfl⟩ hlt
    obtain ⟨y, hy⟩ : ∃ y, y = ws.getD x zeroWr := ⟨_, rfl⟩
    have HY := Lib.hid hy
    rw [← hy] at kb ⊢
    have H0 := Lib.hid k0
    have H1 := Lib.hid k1
    have H2 := Lib.hid k2
    have H6 := Lib.hid k6
    have H7 := Lib.hid k7
    have H8 := Lib.hid k8
    have HKB := Lib.hid kb
    have hcb : W.cell? ⟨b, 0, none⟩ = some (.int .i64 y.at_) := kb.list (cellsW_at y)
    have hc0 := k0.cell
    have hrg := kb.range 1 _ (w_sec y)
    have HRG := Lib.hid hrg
    obtain ⟨W2, hst, b14, hg2, hs2⟩ := stBlk (ty := 66) k1 (new := cellsS y.s) (by rw [List.size_toArray, cellsS_len, cellsS_len]) (by rw [cellsS_len]; exact info66) (cellsS_one _)
    have b24 : Boxed W2 (w.heap.size + 1 + 1) 61 (.int .i64 0) := k2.kept hg2 (fun e => by have := Option.some.inj e; omega)
    have hst2 := st61 (z := 0) b24.cell b24.frozen
    have HST := Lib.hid hst
    have HST2 := Lib.hid hst2
    have H14 := Lib.hid b14
    have H24 := Lib.hid b24
    have HG2 := Lib.hid hg2
    have HL := Lib.hid hl
    clear hy k0 k1 k2 k6 k7 k8 kb hrg hst b14 hg2 hs2 b24 hst2 hrec hl m0 m1 m2
    by_cases heq : y.at_ = (j : Int)
    · have hbq : (y.at_ == (j : Int)) = true := by simpa using heq
      gi_wp2_with (first | (with_reducible show wpListIn _ _ _ _ _ (Oper.mk _ (Op.load 66 _) _ _ _ _ :: _) _ _; go_must (refine wpListIn_load (b := b) (i := 1) (cs := cellsS y.s) rfl rfl rfl HRG.out Try.underlying66 rfl (by rw [cellsS_len]; exact info66) ?_)) | (with_reducible show wpListIn _ _ _ _ _ (Oper.mk _ (Op.store 66 _ _) _ _ _ _ :: _) _ _; go_must (refine wpListIn_store (X := .pointer (some ⟨w.heap.size + 1, 0, none⟩)) (Y := .agg (cellsS y.s).toArray) rfl rfl rfl rfl HST.out ?_)) | (with_reducible show wpListIn _ _ _ _ _ (Oper.mk _ (Op.store 61 _ _) _ _ _ _ :: _) _ _; go_must (refine wpListIn_store (X := .pointer (some ⟨w.heap.size + 1 + 1, 0, none⟩)) (Y := .int .i64 0) rfl rfl rfl rfl HST2.out ?_)))
      refine ⟨(((KeepsOthers.of_grownBy HG2.out fun k o ek hk => ?_)).trans (KeepsOthers.setCell _ _ _)).from _, rfl, pre, x, rfl, ?_, H24.out.set _, ?_, ?_, H7.out⟩
      · obtain rfl : w.heap.size + 1 = k := Option.some.inj ek
        rw [show W.heap[w.heap.size + 1]? = _ from H1.out] at hk
        cases hk; rfl
      · rw [← HY.out]; exact H14.out.far (by show w.heap.size + 1 ≠ w.heap.size + 1 + 1; omega) _
      · exact (H6.out.grown HG2.out H6.out.size (fun k e => by cases e; omega)).setCell (p := ⟨w.heap.size + 1 + 1, 0, none⟩) (by show w.heap.size ≤ w.heap.size + 1 + 1; omega) _
      · rw [← HY.out]; exact heq
    · have hbq : (y.at_ == (j : Int)) = false := by simpa using heq
      gi_wp2
      refine ⟨(KeepsOthers.refl W).from _, KeepB.refl _ _ _ _, H0.out, H1.out, H2.out, H6.out, fun z hz => ?_, H8.out⟩
      rcases List.mem_append.1 hz with hz | hz
      · exact H7.out z hz
      · have : z = x := by simpa using hz
        subst this
        rw [← HY.out]; exact heq
  case done =>
    rintro D' ys W hD rfl ⟨k0, k1, k2, k6, k7, k8⟩ hK
    have HLN : Hid (lastAt ws (j : Int) = none) := Lib.hid (rd_none (by rw [← HN.out]; exact k7))
    have hg2 : W.cell? ⟨g, 2, none⟩ = some (.slice (some ⟨sb, so, none⟩) m sc) := (k6.cell (p := ⟨g, 2, none⟩) HGL.out).trans (HBK.out.cell 2)
    have hc0 := k0.cell
    have hsj := rangeAt_below HSJ.out k6 HSB.out
    have hgW : g < W.heap.size := Nat.lt_of_lt_of_le HGL.out k6.size
    have hsW : sb < W.heap.size := Nat.lt_of_lt_of_le HSB.out k6.size
    have HGW := Lib.hid hgW
    have HSW := Lib.hid hsW
    have HSJ2 := Lib.hid hsj
    have H0 := Lib.hid k0
    have H1 := Lib.hid k1
    have H2 := Lib.hid k2
    have H6 := Lib.hid k6
    have HDD := Lib.hid hD
    have HKK := Lib.hid hK
    have hjm := HJL.out
    have hjm2 : (j : Int) < (m : Int) := by omega
    clear m0 m1 m2 hgW hsW hsj k0 k1 k2 k6 k7 k8 hD hK
    gi_wp2_with fail
    refine wpIn_wide.2 ?_
    refine wp_region_quiet_tail (fun W' => Below W.heap.size W W') 7 (by kernel_rfl) (by kernel_rfl) ((Below.refl _ W).drew) ?_
    simp only [List.take_succ_cons, List.take_zero, List.drop_succ_cons, List.drop_zero]
    go_big_quiet_want; go_big_quiet_op; go_big_quiet_on
    go_big_quiet_want; refine quiet_value (.pointer (some ⟨g, 0, none⟩)) (fun W' _ => by go_simp) ?_; go_frame; go_big_quiet_on
    go_big_quiet_want; refine quiet_value (.pointer (some ⟨g, 2, none⟩)) (fun W' _ => by go_simp) ?_; go_frame; go_big_quiet_on
    go_big_quiet_want; refine quiet_value (.slice (some ⟨sb, so, none⟩) m sc) (fun W' hW => by have h := (hW.cell (p := ⟨g, 2, none⟩) HGW.out).trans hg2; go_simp) ?_; go_frame; go_big_quiet_on
    go_big_quiet_want; refine quiet_value (.int .i64 (j : Int)) (fun W' hW => by have h := (hW.cell (p := ⟨w.heap.size, 0, none⟩) H0.out.lt).trans hc0; go_simp) ?_; go_frame; go_big_quiet_on
    go_big_quiet_want; refine quiet_value (.pointer (some ⟨sb, so + j * 32, none⟩)) (fun W' _ => by go_simp) ?_; go_frame; go_big_quiet_on
    go_big_quiet_want; refine quiet_load_mid 66 (.tmp 31) rfl sb (so + j * 32) rfl (cellsS sj) _ (fun W' hW => rangeAt_below HSJ2.out hW HSW.out) Try.underlying66 rfl (by rw [cellsS_len]; exact info66) ?_; go_frame; go_big_quiet_on
    refine wpQuiet_nil ?_
    intro W3 hW3
    have b1 : Blk W3 (w.heap.size + 1) 66 (cellsS zeroSec).toArray := H1.out.below hW3 H1.out.lt
    have b2 : Boxed W3 (w.heap.size + 1 + 1) 61 (.int .i64 0) := (hW3.block _ H2.out.lt).trans H2.out
    obtain ⟨W4, hst, b14, hg4, hs4⟩ := stBlk (ty := 66) b1 (new := cellsS sj) (by rw [List.size_toArray, cellsS_len, cellsS_len]) (by rw [cellsS_len]; exact info66) (cellsS_one _)
    have b24 : Boxed W4 (w.heap.size + 1 + 1) 61 (.int .i64 0) := b2.kept hg4 (fun e => by have := Option.some.inj e; omega)
    have hst2 := st61 (z := 0) b24.cell b24.frozen
    have HST := Lib.hid hst
    have HST2 := Lib.hid hst2
    have H14 := Lib.hid b14
    have H24 := Lib.hid b24
    have HBL4 := Lib.hid ((H6.out.trans (hW3.mono H6.out.size)).grown hg4 (Nat.le_trans H6.out.size hW3.size) (fun k e => by cases e; omega))
    have HK4 : Hid (W4.heap[D']? = some (.deferred (some []))) := Lib.hid ((hg4.block _ (Array.getElem?_eq_some_iff.1 ((hW3.block _ (Array.getElem?_eq_some_iff.1 HKK.out).1).trans HKK.out)).1 (fun e => by have := HDD.out; have := HB3.out.size; have := HS3.out; have := hs1.out; have := Option.some.inj e; omega)).trans ((hW3.block _ (Array.getElem?_eq_some_iff.1 HKK.out).1).trans HKK.out))
    clear hst hst2 b14 b24 hg4 hs4 b1 b2 hc0 hg2 hW3 hjm hjm2
    go_wp2_with (first | (with_reducible show wpList _ _ _ (Oper.mk none (Op.store 66 _ _) _ _ _ _ :: _) _ _; go_must (refine wpList_done rfl W4 (Ph.run_store (X := .pointer (some ⟨w.heap.size + 1, 0, none⟩)) (Y := .agg (cellsS sj).toArray) rfl rfl rfl HST.out) ?_)) | (with_reducible show wpList _ _ _ (Oper.mk none (Op.store 61 _ _) _ _ _ _ :: _) _ _; go_must (refine wpList_done rfl _ (Ph.run_store (X := .pointer (some ⟨w.heap.size + 1 + 1, 0, none⟩)) (Y := .int .i64 0) rfl rfl rfl HST2.out) ?_)))
    have HK5 : (W4.setCell ⟨w.heap.size + 1 + 1, 0, none⟩ (.int .i64 0)).heap[D']? = some (.deferred (some [])) := (Below.heap_setCell _ _ _ D' (by show D' ≠ w.heap.size + 1 + 1; have := HDD.out; have := hle; have := HS3.out; have := hs1.out; omega)).trans HK4.out
    gi_wp2
    refine ⟨by simp, .inl ⟨_, _, rfl, run_takeDeferred HK5, ?_⟩⟩
    rw [HLN.out]
    exact rd_end rfl rfl (H14.out.far (by show w.heap.size + 1 ≠ w.heap.size + 1 + 1; omega) _) (H24.out.set _) (HBL4.out.setCell (p := ⟨w.heap.size + 1 + 1, 0, none⟩) (by show w.heap.size ≤ w.heap.size + 1 + 1; omega) _) HK5 (Nat.le_trans hle HDD.out)
  case stop =>
    rintro D' c' pre W hD hpre ⟨rfl, p0, x, rfl, k1, k2, k6, hx, h0⟩ hK
    have HF := Lib.hid (rd_found (by rw [← HN.out]; exact hpre) hx h0)
    have H1 := Lib.hid k1
    have H2 := Lib.hid k2
    have H6 := Lib.hid k6
    have HD := Lib.hid hD
    clear k1 k2 k6 hx h0 hD hpre m0 m1 m2
    gi_wp2
    refine ⟨by simp, .inl ⟨_, _, rfl, run_takeDeferred hK, ?_⟩⟩
    rw [HF.out]
    exact rd_end rfl rfl H1.out H2.out H6.out hK (Nat.le_trans hle HD.out)
theorem read_any (h : DiskV w F g D bv sv wv lv) (at_ : Int) (hs : 0 < D.safe.length) (hw : D.wait.length ≤ 1000) :
    Calls Try.prog 50 #[.pointer (some ⟨g, 0, none⟩), .int .i64 at_] w (ReadTo w (D.read at_)) := by
  unfold Dk.read
  cases hi : atIn at_ D.safe.length with
  | true =>
    rw [if_pos rfl]
    exact read_in h at_ hs hw hi
  | false =>
    rw [if_neg (by decide)]
    refine read_out _ at_ w fun W hb => ?_
    have := hasat_any (h.below hb) hs at_
    rwa [hi] at this
end
end Go.Proofs.Ytikhhipgamllgaa
