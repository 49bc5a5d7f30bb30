/- The State's sync of crash: its closures, and what it makes, in plain terms. Conditions: in each theorem. The State of crash in memory; its sync, walked. Conditions: in each theorem. The State's sync of crash, walked. Conditions: short lists; all that waits has a sector and an epoch of 0 or more. (*State).do of crash: an event, done to a state; the state behind a log, in plain terms. Conditions: in each theorem. -/
/- Printed by our own program (wip/rb/mk_k.py, do.tpl). crash.At, of a log that may be; the document's Same of two equal states. Conditions: in each theorem. -/
import Derived.Test.YtikhhipgamllgaaKa
import Derived.Test.YtikhhipgamllgaaEqv
namespace Go.Proofs.Ytikhhipgamllgaa
open Go.RowKit
/-! ### plain -/
def lowM : Int := -4611686018427387904
def topMS (ts : List Tg) (x : Wr) (m : Int) : Int := if x.tg ∈ ts then max m x.ep else m
def topM (ws : List Wr) (ts : List Tg) (k : Nat) : Int := (ws.take k).foldl (fun m x => topMS ts x m) lowM
section
variable {ws : List Wr} {ts : List Tg} {k : Nat} {x : Wr}
theorem topM_step (h : ws[k]? = some x) : topM ws ts (k + 1) = topMS ts x (topM ws ts k) := by
  unfold topM
  rw [List.take_add_one, h]
  simp
theorem topM_topN (he : ∀ x ∈ ws, 0 ≤ x.ep) : ∀ k, k ≤ ws.length → ((topN ws ts k).2 = true → topM ws ts k = (topN ws ts k).1 ∧ 0 ≤ (topN ws ts k).1) ∧ ((topN ws ts k).2 = false → topM ws ts k = lowM)
  | 0, _ => ⟨fun h => by simp [topN] at h, fun _ => rfl⟩
  | k + 1, hk => by
    obtain ⟨x, hx⟩ : ∃ x, ws[k]? = some x := ⟨_, List.getElem?_eq_getElem (by omega)⟩
    have ih := topM_topN he k (by omega)
    have h0 := he x (List.mem_of_getElem? hx)
    rw [topN_step hx, topM_step hx]
    unfold topS topMS
    by_cases ht : x.tg ∈ ts
    · cases h2 : (topN ws ts k).2 with
      | false =>
        have h3 := ih.2 h2
        rw [if_pos ⟨ht, .inl rfl⟩, if_pos ht, h3]
        refine ⟨fun _ => ⟨?_, h0⟩, fun h => by cases h⟩
        unfold lowM
        simp only
        omega
      | true =>
        obtain ⟨h3, h4⟩ := ih.1 h2
        rw [if_pos ht, h3]
        by_cases hlt : (topN ws ts k).1 < x.ep
        · rw [if_pos ⟨ht, .inr hlt⟩]
          refine ⟨fun _ => ⟨by simp only; omega, h0⟩, fun h => by cases h⟩
        · rw [if_neg (fun h => h.2.elim (fun h => by cases h) hlt)]
          refine ⟨fun _ => ⟨by omega, h4⟩, fun h => by rw [h2] at h; cases h⟩
    · rw [if_neg (fun h => ht h.1), if_neg ht]
      exact ih
theorem topN_any : ∀ k, k ≤ ws.length → (topN ws ts k).2 = (ws.take k).any (fun x => decide (x.tg ∈ ts))
  | 0, _ => rfl
  | k + 1, hk => by
    obtain ⟨x, hx⟩ : ∃ x, ws[k]? = some x := ⟨_, List.getElem?_eq_getElem (by omega)⟩
    rw [topN_step hx, List.take_add_one, hx, Option.toList_some, List.any_append, ← topN_any k (by omega)]
    unfold topS
    by_cases ht : x.tg ∈ ts
    · by_cases h2 : (topN ws ts k).2 = false ∨ (topN ws ts k).1 < x.ep
      · rw [if_pos ⟨ht, h2⟩]; simp [ht]
      · rw [if_neg (fun h => h2 h.2)]
        have h3 : (topN ws ts k).2 = true := by
          cases h : (topN ws ts k).2 with
          | true => rfl
          | false => exact absurd (.inl h) h2
        rw [h3]; simp
    · rw [if_neg (fun h => ht h.1)]; simp [ht]
/-- what becomes safe, by the greatest epoch -/
def madeC (ts : List Tg) (m : Int) (x : Wr) : Bool := decide (x.tg ∈ ts) || decide (x.ep < m)
theorem madeC_eq (he : ∀ x ∈ ws, 0 ≤ x.ep) (ha : ws.any (fun x => decide (x.tg ∈ ts)) = true) : madeC ts (topM ws ts ws.length) = madeB ts (topN ws ts ws.length) := by
  have h2 : (topN ws ts ws.length).2 = true := by rw [topN_any _ (Nat.le_refl _), List.take_length]; exact ha
  funext x
  unfold madeC madeB
  rw [((topM_topN he _ (Nat.le_refl _)).1 h2).1, h2, Bool.true_and]
theorem none_made (ha : ws.any (fun x => decide (x.tg ∈ ts)) = false) : ∀ x ∈ ws, madeB ts (topN ws ts ws.length) x = false := fun x hx => by
  have h2 : (topN ws ts ws.length).2 = false := by rw [topN_any _ (Nat.le_refl _), List.take_length]; exact ha
  unfold madeB
  rw [h2, Bool.false_and, Bool.or_false]
  have := List.any_eq_false.1 ha x hx
  simpa using this
theorem safeN_none {mk : Wr → Bool} {l : List Sec} (h : ∀ x ∈ ws, mk x = false) : ∀ k, k ≤ ws.length → safeN ws mk l k = l
  | 0, _ => rfl
  | k + 1, hk => by
    obtain ⟨x, hx⟩ : ∃ x, ws[k]? = some x := ⟨_, List.getElem?_eq_getElem (by omega)⟩
    rw [safeN_no hx (h x (List.mem_of_getElem? hx)), safeN_none h k (by omega)]
theorem leftN_none {mk : Wr → Bool} (h : ∀ x ∈ ws, mk x = false) : ∀ k, k ≤ ws.length → leftN ws mk (lastN ws mk ws.length) k = ws.take k
  | 0, _ => rfl
  | k + 1, hk => by
    obtain ⟨x, hx⟩ : ∃ x, ws[k]? = some x := ⟨_, List.getElem?_eq_getElem (by omega)⟩
    have hkp : keepB mk (lastN ws mk ws.length) k x = true := by
      rw [keepB_eq rfl, h x (List.mem_of_getElem? hx)]
      unfold anyB
      have : ((ws.take ws.length).drop (k + 1)).any (fun y => mk y && decide (y.at_ = x.at_)) = false := by
        rw [List.any_eq_false]
        intro y hy
        rw [h y (List.mem_of_mem_take (List.mem_of_mem_drop hy))]
        simp
      rw [this]; rfl
    rw [leftN_yes hx hkp, leftN_none h k (by omega), List.take_add_one, hx, Option.toList_some]
end
/-! ### the closures -/
theorem hcf120 (a v : Value) (W : World) : (callFunc 120 #[a, v]).run Try.prog W = .ok (.enter 120 #[a, v]) W := by kernel_rfl
theorem hcf123 (a v u : Value) (W : World) : (callFunc 123 #[a, v, u]).run Try.prog W = .ok (.enter 123 #[a, v, u]) W := by kernel_rfl
set_option maxRecDepth 100000 in
set_option maxHeartbeats 1000000 in
theorem of_c (x : Wr) (gt c : Nat) (A : Option Addr) (ts : List Tg) (W : World) (hn : ts.length ≤ 1000) (hk : Blk W gt 70 #[.slice A ts.length c]) (hr : Reads W W.heap.size 2 A ts.length (ts.flatMap cellsT)) :
    Calls Try.prog 120 #[.agg (cellsW x).toArray, .pointer (some ⟨gt, 0, none⟩)] W fun o W' => o = .returned (.bool (decide (x.tg ∈ ts))) ∧ Below W.heap.size W W' := by
  obtain ⟨w1, hw1⟩ : ∃ w1, W.alloc (.cells (cellsW x).toArray 108) = w1 := ⟨_, rfl⟩
  have hb1 : Below W.heap.size W w1 := by rw [← hw1]; exact (Below.refl _ W).alloc (Nat.le_refl _) _
  have hk1 : Blk w1 W.heap.size 108 (cellsW x).toArray := by rw [← hw1]; exact Blk.new W 108 _
  have HRG := Lib.hid (hk1.range 33 _ (cellsW_tg x))
  have hc1 : w1.cell? ⟨gt, 0, none⟩ = some (.slice A ts.length c) := (hk.below hb1 hk.lt).cell 0
  have HC := Lib.hid (contains_tag A c ts x.tg w1 hn ((hr.below hb1).more hb1.size))
  have HB := Lib.hid hb1
  clear hb1 hk1 hk hr
  go_enter Try.func120, Try.ntmps120
  go_wp2_with (first
    | (with_reducible show wpList _ _ _ (Oper.mk _ (Op.load 69 _) _ _ _ _ :: _) _ _; go_must (refine wpList_load_mid rfl 69 (.tmp 5) rfl W.heap.size 33 rfl (cellsT x.tg) _ HRG.out Try.underlying69 rfl (by rw [cellsT_len]; exact info69) ?_))
    | (go_at_call 121; refine HC.out.mono ?_; rintro o w2 ⟨rfl, hb2⟩; have HB2 := Lib.hid hb2; clear hb2))
  go_ret
  exact ⟨rfl, below_then HB.out HB2.out⟩
/-- the variables that the closures share -/
structure Clo (W : World) (gt gf gp gm : Nat) (A : Option Addr) (c : Nat) (ts : List Tg) (m : Int) : Prop where
  t : Blk W gt 70 #[.slice A ts.length c]
  f : Blk W gf 127 #[.func (.func 120) #[] #[.pointer (some ⟨gt, 0, none⟩)]]
  p : Blk W gp 3 #[.int .i64 m]
  m : Blk W gm 127 #[.func (.func 122) #[] #[.pointer (some ⟨gf, 0, none⟩), .pointer (some ⟨gp, 0, none⟩)]]
  rd : Reads W W.heap.size 2 A ts.length (ts.flatMap cellsT)
theorem Clo.below {W W' : World} {gt gf gp gm c : Nat} {A : Option Addr} {ts : List Tg} {m : Int} (h : Clo W gt gf gp gm A c ts m) (hb : Below W.heap.size W W') : Clo W' gt gf gp gm A c ts m :=
  ⟨h.t.below hb h.t.lt, h.f.below hb h.f.lt, h.p.below hb h.p.lt, h.m.below hb h.m.lt, (h.rd.below hb).more hb.size⟩
set_option maxRecDepth 100000 in
set_option maxHeartbeats 1000000 in
theorem made_c {W : World} {gt gf gp gm c : Nat} {A : Option Addr} {ts : List Tg} {m : Int} (h : Clo W gt gf gp gm A c ts m) (hn : ts.length ≤ 1000) (x : Wr) :
    Calls Try.prog 122 #[.agg (cellsW x).toArray, .pointer (some ⟨gf, 0, none⟩), .pointer (some ⟨gp, 0, none⟩)] W fun o W' => o = .returned (.bool (madeC ts m x)) ∧ Below W.heap.size W W' := by
  obtain ⟨w1, hw1⟩ : ∃ w1, W.alloc (.cells (cellsW x).toArray 108) = w1 := ⟨_, rfl⟩
  have hb1 : Below W.heap.size W w1 := by rw [← hw1]; exact (Below.refl _ W).alloc (Nat.le_refl _) _
  have hk1 : Blk w1 W.heap.size 108 (cellsW x).toArray := by rw [← hw1]; exact Blk.new W 108 _
  have h1 := h.below hb1
  have HX := Lib.hid (range0 hk1)
  have cf : w1.cell? ⟨gf, 0, none⟩ = some (.func (.func 120) #[] #[.pointer (some ⟨gt, 0, none⟩)]) := h1.f.cell 0
  have HC := Lib.hid (of_c x gt c A ts w1 hn h1.t h1.rd)
  have HP : Hid (∀ W2, Below w1.heap.size w1 W2 → W2.cell? ⟨gp, 0, none⟩ = some (.int .i64 m)) := Lib.hid (fun W2 hb => (h1.p.below hb h1.p.lt).cell 0)
  have HEP : Hid (∀ W2, Below w1.heap.size w1 W2 → W2.cell? ⟨W.heap.size, 35, none⟩ = some (.int .i64 x.ep)) := Lib.hid (fun W2 hb => (hk1.below hb hk1.lt).list (cellsW_ep x))
  have HB := Lib.hid hb1
  obtain ⟨b, hb⟩ : ∃ b, b = decide (x.tg ∈ ts) := ⟨_, rfl⟩
  have HRES : Hid (madeC ts m x = (b || decide (x.ep < m))) := Lib.hid (by unfold madeC; rw [hb])
  rw [← hb] at HC
  have HL : Hid (∀ W, (binOp .lss 3 (.int .i64 x.ep) (.int .i64 m)).run Try.prog W = .ok (.bool (decide (x.ep < m))) W) := Lib.hid (fun W => lssI W x.ep m)
  clear hb1 hk1 h h1 hb
  cases b with
  | true =>
    go_enter Try.func122, Try.ntmps122
    go_wp2_with (first
      | (with_reducible show wpList _ _ _ (Oper.mk _ (Op.load 108 _) _ _ _ _ :: _) _ _; go_must (refine wpList_load_mid rfl 108 (.tmp 3) rfl W.heap.size 0 rfl (cellsW x) _ HX.out Try.underlying108 rfl (by rw [cellsW_len]; exact info108) ?_))
      | (go_at_call 120; refine HC.out.mono ?_; rintro o w2 ⟨rfl, hb2⟩; have HB2 := Lib.hid hb2; clear hb2))
    go_ret
    exact ⟨by rw [HRES.out]; rfl, below_then HB.out HB2.out⟩
  | false =>
    go_enter Try.func122, Try.ntmps122
    go_wp2_with (first
      | (with_reducible show wpList _ _ _ (Oper.mk _ (Op.load 108 _) _ _ _ _ :: _) _ _; go_must (refine wpList_load_mid rfl 108 (.tmp 3) rfl W.heap.size 0 rfl (cellsW x) _ HX.out Try.underlying108 rfl (by rw [cellsW_len]; exact info108) ?_))
      | (go_at_call 120; refine HC.out.mono ?_; rintro o w2 ⟨rfl, hb2⟩; have c1 := HP.out w2 hb2; have c2 := HEP.out w2 hb2; have HB2 := Lib.hid hb2; clear hb2)
      | (with_reducible show wpList _ _ _ (Oper.mk (some 12) _ _ _ _ _ :: _) _ _; go_must (refine wpList_wrun rfl _ (Ph.run_bin (X := .int .i64 x.ep) (Y := .int .i64 m) rfl rfl rfl rfl (HL.out _)) ?_)))
    go_ret
    exact ⟨by rw [HRES.out]; rfl, below_then HB.out HB2.out⟩
set_option maxRecDepth 100000 in
set_option maxHeartbeats 1000000 in
theorem later_c {W : World} {gt gf gp gm gw c : Nat} {A : Option Addr} {ts : List Tg} {m : Int} {x : Wr} (h : Clo W gt gf gp gm A c ts m) (hw : Blk W gw 108 (cellsW x).toArray) (hn : ts.length ≤ 1000) (y : Wr) :
    Calls Try.prog 123 #[.agg (cellsW y).toArray, .pointer (some ⟨gw, 0, none⟩), .pointer (some ⟨gm, 0, none⟩)] W fun o W' => o = .returned (.bool (decide (y.at_ = x.at_) && madeC ts m y)) ∧ Below W.heap.size W W' := by
  obtain ⟨w1, hw1⟩ : ∃ w1, W.alloc (.cells (cellsW y).toArray 108) = w1 := ⟨_, rfl⟩
  have hb1 : Below W.heap.size W w1 := by rw [← hw1]; exact (Below.refl _ W).alloc (Nat.le_refl _) _
  have hk1 : Blk w1 W.heap.size 108 (cellsW y).toArray := by rw [← hw1]; exact Blk.new W 108 _
  have h1 := h.below hb1
  have HX := Lib.hid (range0 hk1)
  have cy : w1.cell? ⟨W.heap.size, 0, none⟩ = some (.int .i64 y.at_) := hk1.list (cellsW_at y)
  have cx : w1.cell? ⟨gw, 0, none⟩ = some (.int .i64 x.at_) := (hw.below hb1 hw.lt).list (cellsW_at x)
  have cm : w1.cell? ⟨gm, 0, none⟩ = some (.func (.func 122) #[] #[.pointer (some ⟨gf, 0, none⟩), .pointer (some ⟨gp, 0, none⟩)]) := h1.m.cell 0
  have HC := Lib.hid (made_c h1 hn y)
  have HB := Lib.hid hb1
  obtain ⟨b, hb⟩ : ∃ b, b = decide (y.at_ = x.at_) := ⟨_, rfl⟩
  have HE : Hid (∀ W, (binOp .eql 3 (.int .i64 y.at_) (.int .i64 x.at_)).run Try.prog W = .ok (.bool b) W) := Lib.hid (fun W => by rw [eqlI, hb])
  rw [← hb]
  obtain ⟨v, hv⟩ : ∃ v, v = madeC ts m y := ⟨_, rfl⟩
  rw [← hv] at HC ⊢
  clear hb1 hk1 h h1 hb hw hv
  cases b with
  | true =>
    go_enter Try.func123, Try.ntmps123
    go_wp2_with (first
      | (with_reducible show wpList _ _ _ (Oper.mk (some 9) _ _ _ _ _ :: _) _ _; go_must (refine wpList_wrun rfl _ (Ph.run_bin (X := .int .i64 y.at_) (Y := .int .i64 x.at_) rfl rfl rfl rfl (HE.out _)) ?_))
      | (with_reducible show wpList _ _ _ (Oper.mk (some 12) _ _ _ _ _ :: _) _ _; go_must (refine wpList_wrun rfl _ (Ph.run_load (X := .pointer (some ⟨W.heap.size, 0, none⟩)) rfl rfl (run_loadAt_mid _ W.heap.size 0 108 (cellsW y) _ HX.out Try.underlying108 rfl (by rw [cellsW_len]; exact info108))) ?_))
      | (go_at_call 122; refine HC.out.mono ?_; rintro o w2 ⟨rfl, hb2⟩; have HB2 := Lib.hid hb2; clear hb2))
    go_ret
    exact ⟨rfl, below_then HB.out HB2.out⟩
  | false =>
    go_enter Try.func123, Try.ntmps123
    go_wp2_with (with_reducible show wpList _ _ _ (Oper.mk (some 9) _ _ _ _ _ :: _) _ _; go_must (refine wpList_wrun rfl _ (Ph.run_bin (X := .int .i64 y.at_) (Y := .int .i64 x.at_) rfl rfl rfl rfl (HE.out _)) ?_))
    go_ret
    exact ⟨rfl, HB.out⟩
end Go.Proofs.Ytikhhipgamllgaa
namespace Go.Proofs.Ytikhhipgamllgaa
open Go.RowKit
theorem zero127 (W : World) : (zeroValue 127).run Try.prog W = .ok .nilFunc W := by kernel_rfl
theorem st127 {W : World} {g i : Nat} {u : Value} {f : Fn} {a b : Array Value} (h : W.cell? ⟨g, i, none⟩ = some u) (hf : W.frozen? ⟨g, i, none⟩ = false) : (Instr.storeAt 127 (.pointer (some ⟨g, i, none⟩)) (.func f a b)).run Try.prog W = .ok () (W.setCell ⟨g, i, none⟩ (.func f a b)) := by
  have e : (store ⟨g, i, none⟩ (.func f a b)).run Try.prog W = stored Try.prog W ⟨g, i, none⟩ (.func f a b) .plain := run_store Try.prog W _ _ _ rfl
  go_simp
theorem run_max2 {o : Oper} {a : Act} {w : World} {x y : Operand} {t : TypeId} {X Y : Int} (ho : o.op = .call { callee := .builtin .max, args := #[x, y], argTypes := #[t, t] }) (hx : a.eval x = .int .i64 X) (hy : a.eval y = .int .i64 Y) : (execOp a.eval o).run Try.prog w = .ok (.value (.int .i64 (max X Y))) w := by
  have e : (if Y > X then Y else X) = max X Y := by
    by_cases h : Y > X
    · rw [if_pos h]; omega
    · rw [if_neg h]; omega
  unfold execOp
  simp only [ho, resolve, invoke, Sem.run_bind, Sem.run_pure, Result.andThen_ok, List.map_toArray, List.map_cons, List.map_nil, hx, hy]
  simp [builtin, run_max_int2]
  omega
theorem cat_drop {α : Type} (f : α → List Value) (size : Nat) (hf : ∀ x, (f x).length = size) : ∀ (l : List α) (k : Nat), (l.flatMap f).drop (k * size) = (l.drop k).flatMap f
  | [], k => by simp
  | x :: l, 0 => by simp
  | x :: l, k + 1 => by
    rw [List.flatMap_cons, List.drop_succ_cons, ← cat_drop f size hf l k, List.drop_append, hf, List.drop_of_length_le (by rw [hf, Nat.add_mul]; omega), List.nil_append]
    congr 1
    rw [Nat.add_mul]; omega
/-- what stands behind item k of a row -/
theorem reads_drop {α : Type} {f : α → List Value} {size : Nat} (hf : ∀ x, (f x).length = size) {W : World} {B b o n : Nat} {l : List α} (hn : l.length = n) (h : Reads W B size (some ⟨b, o, none⟩) n (l.flatMap f)) (k : Nat) (hk : k ≤ n) (A2 : Option Addr) (hA : k < n → A2 = some ⟨b, o + k * size, none⟩) :
    Reads W B size A2 (n - k) ((l.drop k).flatMap f) := by
  have hlen : ((l.drop k).flatMap f).length = (n - k) * size := by rw [cat_len f size hf, List.length_drop, hn]
  refine ⟨hlen, fun h0 => ?_⟩
  obtain ⟨a, ha, hb, hc⟩ := h.2 (by omega)
  obtain rfl : ⟨b, o, none⟩ = a := Option.some.inj ha
  refine ⟨_, hA (by omega), hb, fun j u hu => ?_⟩
  rw [← cat_drop f size hf, List.getElem?_drop] at hu
  have := hc _ u hu
  rw [Addr.add_mid] at this ⊢
  rw [Nat.add_assoc]
  exact this
theorem sl41 {A : Option Addr} {n c k : Nat} (hk : k ≤ n) (W : World) : (Instr.sliceAt 41 (.slice A n c) (some (.int .i64 (k : Nat))) none none).run Try.prog W = .ok (.slice (if c = k then A else A.map (·.add (k * 36))) (n - k) (c - k)) W := by
  have h1 : (k : Int) ≤ (n : Int) := by omega
  go_simp
/-! ### the state -/
structure CV (w : World) (F : Nat → Prop) (g : Nat) (l : List Sec) (ws : List Wr) (sv wv : Value) : Prop where
  blk : Blk w g 44 #[sv, wv]
  own : F g
  lt : ∀ k, F k → k < w.heap.size
  safe : RowF w F 66 32 sv l.length (l.flatMap cellsS)
  wait : RowF w F 108 36 wv ws.length (ws.flatMap cellsW)
section
variable {F G : Nat → Prop} {w w' : World} {g : Nat} {l l2 : List Sec} {ws : List Wr} {sv wv : Value}
theorem CV.keep (h : CV w F g l ws sv wv) (ho : OnlyF G w w') (hd : ∀ k, F k → ¬ G k) : CV w' F g l ws sv wv :=
  ⟨ho.blk h.blk (hd g h.own), h.own, fun k hk => Nat.lt_of_lt_of_le (h.lt k hk) ho.size, h.safe.keep ho hd, h.wait.keep ho hd⟩
theorem CV.below (h : CV w F g l ws sv wv) (hb : Below w.heap.size w w') : CV w' F g l ws sv wv := h.keep (G := fun _ => False) (OnlyF.of_below hb) (fun _ _ h => h)
theorem CV.put (h : CV w F g l ws sv wv) (ho : w'.ownsRow 0 66 32 sv l2.length (l2.flatMap cellsS)) (hO : OnlyF (fun k => sv.ownBlock = some k) w w') : CV w' F g l2 ws sv wv :=
  ⟨hO.blk h.blk (fun hk => own_blk_ne h.safe.1 h.blk (by decide) hk), h.own, fun k hk => Nat.lt_of_lt_of_le (h.lt k hk) hO.size, ⟨ho, h.safe.2⟩, ⟨hO.own h.wait.1 (fun k hk hh => own_own_ne h.wait.1 h.safe.1 (by decide) hk hh), h.wait.2⟩⟩
end
def CTurned (w : World) (F : Nat → Prop) (g : Nat) (l : List Sec) (ws : List Wr) (w' : World) : Prop := ∃ F' sv wv, CV w' F' g l ws sv wv ∧ Wider F F' w w' ∧ OnlyF F w w'
/-- a new row of writes, put into the state -/
theorem CV.setWait {w w1 : World} {F : Nat → Prop} {g : Nat} {l : List Sec} {ws ws2 : List Wr} {sv wv v : Value} (h : CV w1 F g l ws sv wv) (ho : OnlyF F w w1) (hF : ∀ k, F k → k < w.heap.size) (hr : w1.ownsRow w.heap.size 108 36 v ws2.length (ws2.flatMap cellsW)) :
    CTurned w F g l ws2 (w1.setCell ⟨g, 1, none⟩ v) := by
  have hO : OnlyF (fun k => k = g) w1 (w1.setCell ⟨g, 1, none⟩ v) := (OnlyF.refl _ w1).grown (setCell_grown w1 g 1 _) (fun k e _ => by cases e; rfl)
  have hs : (w1.setCell ⟨g, 1, none⟩ v).heap.size = w1.heap.size := by simp
  have hb := h.blk.set_ 1 v
  have hgl := hF g h.own
  refine ⟨fun k => F k ∨ v.ownBlock = some k, sv, v, ⟨by simpa using hb, .inl h.own, fun k hk => by rw [hs]; exact hk.elim (fun hk => h.lt k hk) (fun hk => (hr.lt k hk).2), ⟨hO.own h.safe.1 (fun k hk hh => by subst hh; exact own_blk_ne h.safe.1 h.blk (by decide) hk), fun k hk => .inl (h.safe.2 k hk)⟩, ⟨hO.own (own_base hr (Nat.zero_le _)) (fun k hk hh => by have := (hr.lt k hk).1; omega), fun k hk => .inr hk⟩⟩, fun k hk => ?_, ho.trans hO (fun k _ e => by subst e; exact h.own)⟩
  rcases hk with hk | hk
  · exact .inl hk
  · exact .inr ⟨(hr.lt k hk).1, by rw [hs]; exact (hr.lt k hk).2⟩
/-- between two rounds of sync's second loop -/
structure CsI (w : World) (F : Nat → Prop) (g : Nat) (l : List Sec) (ws : List Wr) (sv wv : Value) (gt gf gp gm : Nat) (A : Option Addr) (c : Nat) (ts : List Tg) (m : Int) (wr : World) : Prop where
  cv : CV wr F g l ws sv wv
  clo : Clo wr gt gf gp gm A c ts m
  only : OnlyF F w wr
section
variable {w wr wr' : World} {F : Nat → Prop} {g gt gf gp gm c : Nat} {l l2 : List Sec} {ws : List Wr} {sv wv v : Value} {A : Option Addr} {ts : List Tg} {m : Int}
theorem CsI.below (h : CsI w F g l ws sv wv gt gf gp gm A c ts m wr) (hb : Below wr.heap.size wr wr') : CsI w F g l ws sv wv gt gf gp gm A c ts m wr' :=
  ⟨h.cv.below hb, h.clo.below hb, h.only.andThen hb⟩
/-- past a change of blocks that are not the closures' -/
theorem Clo.keep {G : Nat → Prop} (h : Clo wr gt gf gp gm A c ts m) (ho : OnlyF G wr wr') (h1 : ¬ G gt) (h2 : ¬ G gf) (h3 : ¬ G gp) (h4 : ¬ G gm) (hr : Reads wr' wr'.heap.size 2 A ts.length (ts.flatMap cellsT)) : Clo wr' gt gf gp gm A c ts m :=
  ⟨ho.blk h.t h1, ho.blk h.f h2, ho.blk h.p h3, ho.blk h.m h4, hr⟩
theorem CsI.put (h : CsI w F g l ws sv wv gt gf gp gm A c ts m wr) (ho : wr'.ownsRow 0 66 32 sv l2.length (l2.flatMap cellsS)) (hg : wr.grownBy wr' sv.ownBlock) (hr : ∀ W, OnlyF F w W → Reads W W.heap.size 2 A ts.length (ts.flatMap cellsT)) : CsI w F g l2 ws sv wv gt gf gp gm A c ts m wr' := by
  have hO : OnlyF (fun k => sv.ownBlock = some k) wr wr' := (OnlyF.refl _ wr).grown hg (fun k e _ => e)
  have hOF : OnlyF F w wr' := h.only.trans hO (fun k _ e => h.cv.safe.2 k e)
  exact ⟨h.cv.put ho hO, h.clo.keep hO (fun e => own_blk_ne h.cv.safe.1 h.clo.t (by decide) e) (fun e => own_blk_ne h.cv.safe.1 h.clo.f (by decide) e) (fun e => own_blk_ne h.cv.safe.1 h.clo.p (by decide) e) (fun e => own_blk_ne h.cv.safe.1 h.clo.m (by decide) e) (hr _ hOF), hOF⟩
theorem CsI.left {n : Nat} {xs : List Value} (h : CsI w F g l ws sv wv gt gf gp gm A c ts m wr) (hF : ∀ k, F k → k < w.heap.size) (hv : wr.ownsRow w.heap.size 108 36 v n xs) (hg : wr.grownBy wr' v.ownBlock) (hr : ∀ W, OnlyF F w W → Reads W W.heap.size 2 A ts.length (ts.flatMap cellsT)) : CsI w F g l ws sv wv gt gf gp gm A c ts m wr' := by
  have hO : OnlyF (fun k => v.ownBlock = some k) wr wr' := (OnlyF.refl _ wr).grown hg (fun k e _ => e)
  have hOF : OnlyF F w wr' := h.only.trans hO (fun k hk e => by have := (hv.lt k e).1; omega)
  exact ⟨h.cv.keep hO (fun k hk e => by have := (hv.lt k e).1; have := hF k hk; omega), h.clo.keep hO (fun e => own_blk_ne hv h.clo.t (by decide) e) (fun e => own_blk_ne hv h.clo.f (by decide) e) (fun e => own_blk_ne hv h.clo.p (by decide) e) (fun e => own_blk_ne hv h.clo.m (by decide) e) (hr _ hOF), hOF⟩
end
end Go.Proofs.Ytikhhipgamllgaa
namespace Go.Proofs.Ytikhhipgamllgaa
open Go.RowKit
theorem run_slice_lo {P : Program} {o : Oper} {a : Act} {w : World} {t : TypeId} {x lo : Operand} {X I V : Value} (ho : o.op = .slice t x (some lo) none none) (hx : a.eval x = X) (hi : a.eval lo = I) (h : (Instr.sliceAt t X (some I) none none).run P w = .ok V w) : (execOp a.eval o).run P w = .ok (.value V) w := by
  unfold execOp; simp only [ho, hx, hi, h, Sem.run_bind, Result.andThen_ok, Sem.run_pure, Option.map_some, Option.map_none]
def cMk (ws : List Wr) (ts : List Tg) : Wr → Bool := madeB ts (topN ws ts ws.length)
def cSafe (l : List Sec) (ws : List Wr) (ts : List Tg) : List Sec := safeN ws (cMk ws ts) l ws.length
def cLeft (ws : List Wr) (ts : List Tg) : List Wr := leftN ws (cMk ws ts) (lastN ws (cMk ws ts) ws.length) ws.length
/-- what of the first loop's rounds stays -/
structure CsT (w : World) (F : Nat → Prop) (g : Nat) (l : List Sec) (ws : List Wr) (sv wv : Value) (gt gf gp : Nat) (A : Option Addr) (c : Nat) (ts : List Tg) (m : Int) (wr : World) : Prop where
  cv : CV wr F g l ws sv wv
  t : Blk wr gt 70 #[.slice A ts.length c]
  f : Blk wr gf 127 #[.func (.func 120) #[] #[.pointer (some ⟨gt, 0, none⟩)]]
  p : Blk wr gp 3 #[.int .i64 m]
  only : OnlyF F w wr
section
variable {w wr wr' : World} {F : Nat → Prop} {g gt gf gp gm c : Nat} {l l2 : List Sec} {ws : List Wr} {sv wv v : Value} {A : Option Addr} {ts : List Tg} {m m2 : Int}
theorem CsT.below (h : CsT w F g l ws sv wv gt gf gp A c ts m wr) (hb : Below wr.heap.size wr wr') : CsT w F g l ws sv wv gt gf gp A c ts m wr' :=
  ⟨h.cv.below hb, h.t.below hb h.t.lt, h.f.below hb h.f.lt, h.p.below hb h.p.lt, h.only.andThen hb⟩
theorem CsT.top (h : CsT w F g l ws sv wv gt gf gp A c ts m wr) (hg : w.heap.size ≤ gp) (hF : ∀ k, F k → k < w.heap.size) : CsT w F g l ws sv wv gt gf gp A c ts m2 (wr.setCell ⟨gp, 0, none⟩ (.int .i64 m2)) := by
  have hO : OnlyF (fun k => k = gp) wr (wr.setCell ⟨gp, 0, none⟩ (.int .i64 m2)) := (OnlyF.refl _ wr).grown (setCell_grown wr gp 0 _) (fun k e _ => by cases e; rfl)
  have hb := h.p.set_ 0 (.int .i64 m2)
  exact ⟨h.cv.keep hO (fun k hk e => by have := hF k hk; omega), hO.blk h.t (fun e => Blk.ne_ h.t h.p (by decide) e), hO.blk h.f (fun e => Blk.ne_ h.f h.p (by decide) e), by simpa using hb, h.only.trans hO (fun k hk e => by omega)⟩
end
set_option maxRecDepth 100000 in
set_option maxHeartbeats 8000000 in
theorem csync_any {w : World} {F : Nat → Prop} {g : Nat} {l : List Sec} {ws : List Wr} {sv wv : Value} (h : CV w F g l ws sv wv) (hl0 : 0 < l.length) (hl1 : l.length ≤ 1000) (hn : ws.length ≤ 1000) (hat : ∀ x ∈ ws, atIn x.at_ l.length = true) (hep : ∀ x ∈ ws, 0 ≤ x.ep)
    (A : Option Addr) (c : Nat) (ts : List Tg) (hts : ts.length ≤ 1000) (hr : ∀ W, OnlyF F w W → Reads W W.heap.size 2 A ts.length (ts.flatMap cellsT)) :
    Calls Try.prog 115 #[.pointer (some ⟨g, 0, none⟩), .slice A ts.length c] w fun o w' => o = .returned (.tuple #[]) ∧ CTurned w F g (cSafe l ws ts) (cLeft ws ts) w' := by
  obtain ⟨gs, sc, rfl⟩ := own_some h.safe.1 hl0
  obtain ⟨Aw, cw, rfl, hrw⟩ := own_slice h.wait.1
  obtain ⟨w1, hw1⟩ : ∃ w1, w.alloc (.cells #[.slice A ts.length c] 70) = w1 := ⟨_, rfl⟩
  have hb1 : Below w.heap.size w w1 := by rw [← hw1]; exact (Below.refl _ w).alloc (Nat.le_refl _) _
  have hs1 : w1.heap.size = w.heap.size + 1 := by rw [← hw1]; simp
  have ht1 : Blk w1 w.heap.size 70 #[.slice A ts.length c] := by rw [← hw1]; exact Blk.new w 70 _
  obtain ⟨gt, hgt⟩ : ∃ gt, gt = w.heap.size := ⟨_, rfl⟩
  rw [← hgt] at ht1
  -- the variable 'of'
  have hf0 : Blk (w1.alloc (.cells #[.nilFunc] 127)) w1.heap.size 127 #[.nilFunc] := Blk.new w1 127 _
  have hstf := st127 (f := .func 120) (a := #[]) (b := #[.pointer (some ⟨gt, 0, none⟩)]) (hf0.cell 0) (hf0.frozen 0)
  have hf1 := hf0.set_ 0 (.func (.func 120) #[] #[.pointer (some ⟨gt, 0, none⟩)])
  have hb2 : Below w1.heap.size w1 ((w1.alloc (.cells #[.nilFunc] 127)).setCell ⟨w1.heap.size, 0, none⟩ (.func (.func 120) #[] #[.pointer (some ⟨gt, 0, none⟩)])) := ((Below.refl _ w1).alloc (Nat.le_refl _) _).setCell (p := ⟨w1.heap.size, 0, none⟩) (Nat.le_refl _) _
  obtain ⟨gf, hgf⟩ : ∃ gf, gf = w1.heap.size := ⟨_, rfl⟩
  rw [← hgf] at hf0 hstf hf1 hb2
  obtain ⟨w2, hw2⟩ : ∃ w2, (w1.alloc (.cells #[.nilFunc] 127)).setCell ⟨gf, 0, none⟩ (.func (.func 120) #[] #[.pointer (some ⟨gt, 0, none⟩)]) = w2 := ⟨_, rfl⟩
  rw [hw2] at hstf hf1 hb2
  rw [hgf] at hb2
  have hf2 : Blk w2 gf 127 #[.func (.func 120) #[] #[.pointer (some ⟨gt, 0, none⟩)]] := by simpa using hf1
  have ht2 := ht1.below hb2 ht1.lt
  have h2 := (h.below hb1).below hb2
  have hO2 : OnlyF F w w2 := (OnlyF.of_below (F := F) hb1).andThen hb2
  obtain ⟨n, hnn⟩ : ∃ n, n = ws.length := ⟨_, rfl⟩
  obtain ⟨q, hqq⟩ : ∃ q, q = l.length := ⟨_, rfl⟩
  obtain ⟨p, hpp⟩ : ∃ p, p = ts.length := ⟨_, rfl⟩
  have HN := Lib.hid hnn
  have HQ := Lib.hid hqq
  have HP := Lib.hid hpp
  have hcon := contains_func Aw cw ws 120 (.pointer (some ⟨gt, 0, none⟩)) (fun x => decide (x.tg ∈ ts)) w2
  have HCON : Hid (∀ W, Below w2.heap.size w2 W → Calls Try.prog 79 #[.slice Aw n cw, .func (.func 120) #[] #[.pointer (some ⟨gt, 0, none⟩)]] W fun o w' => o = .returned (.bool (ws.any (fun x => decide (x.tg ∈ ts)))) ∧ Below W.heap.size W w') := Lib.hid (fun W hW => by
    rw [hnn]
    refine contains_func Aw cw ws 120 (.pointer (some ⟨gt, 0, none⟩)) (fun x => decide (x.tg ∈ ts)) W hn (Reads.of_own (h2.below hW).wait.1) (fun x W2 hb => ?_) (fun a W => hcf120 a _ W)
    have hO := hO2.andThen (hW.trans (hb.mono hW.size))
    exact of_c x gt c A ts W2 hts ((ht2.below hW ht2.lt).below hb (Nat.lt_of_lt_of_le ht2.lt hW.size)) (hr W2 hO))
  clear hcon
  have HLT := Lib.hid h.lt
  have HAT := Lib.hid hat
  have HEP := Lib.hid hep
  have HR := Lib.hid hr
  have HL0 := Lib.hid hl0
  have HL1 := Lib.hid hl1
  have HTL := Lib.hid hts
  have HNL : Hid (n ≤ 1000) := Lib.hid (by rw [hnn]; exact hn)
  have HNC : Hid (n ≤ cw) := Lib.hid (by
    rcases h.wait.1.2 with ⟨hv, h0⟩ | ⟨b, cap, cur, hv, _, _, hnc, _⟩
    · rw [hnn, h0]; omega
    · simp only [Value.slice.injEq] at hv
      rw [hnn, hv.2.2]; exact hnc)
  have HCV2 := Lib.hid h2
  have HT2 := Lib.hid ht2
  have HF2 := Lib.hid hf2
  have HO2 := Lib.hid hO2
  have HSTF := Lib.hid hstf
  have HGT := Lib.hid hgt
  have HGF := Lib.hid hgf
  have hgfw : w.heap.size ≤ gf := by rw [hgf]; exact hb1.size
  have HGW := Lib.hid hgfw
  have HADD : Hid (∀ (j : Nat) W, j ≤ 1000000 → (binOp .add 3 (.int .i64 (j : Nat)) (.int .i64 1)).run Try.prog W = .ok (.int .i64 ((j + 1 : Nat) : Int)) W) := Lib.hid (fun j W h => add3 h W)
  have HC1 : Hid (∀ W, Below w2.heap.size w2 W → W.cell? ⟨g, 1, none⟩ = some (.slice Aw n cw)) := Lib.hid (fun W hW => by rw [hnn]; exact (h2.below hW).blk.cell 1)
  have HCF : Hid (∀ W, Below w2.heap.size w2 W → W.cell? ⟨gf, 0, none⟩ = some (.func (.func 120) #[] #[.pointer (some ⟨gt, 0, none⟩)])) := Lib.hid (fun W hW => (hf2.below hW hf2.lt).cell 0)
  rw [← hpp] at hw1 ⊢
  clear h hrw hb1 hs1 ht1 hf0 hstf hf1 hb2 hf2 ht2 h2 hO2 hat hep hr hl0 hl1 hts hn hnn hqq hpp hgt hgf hgfw hw2
  obtain ⟨an, han⟩ : ∃ b, b = ws.any (fun x => decide (x.tg ∈ ts)) := ⟨_, rfl⟩
  rw [← han] at HCON
  have HAN := Lib.hid han
  clear han
  cases an with
  | false =>
    go_enter Try.func115, Try.ntmps115
    go_wp2_with (first
      | (with_reducible show wpList _ _ _ (Oper.mk (some 4) (Op.alloc 127) _ _ _ _ :: _) _ _; go_must (refine wpList_wrun (w' := w1.alloc (.cells #[.nilFunc] 127)) rfl (.pointer (some ⟨w1.heap.size, 0, none⟩)) (Ph.run_alloc (z := .nilFunc) rfl (zero127 w1)) ?_; rw [← HGF.out, ← HGT.out]))
      | (with_reducible show wpList _ _ _ (Oper.mk none (Op.store 127 _ _) _ _ _ _ :: _) _ _; go_must (refine wpList_done rfl w2 (Ph.run_store (X := .pointer (some ⟨gf, 0, none⟩)) (Y := .func (.func 120) #[] #[.pointer (some ⟨gt, 0, none⟩)]) rfl rfl rfl HSTF.out) ?_)))
    refine wp_region_quiet_all (fun W => Below w2.heap.size w2 W) (by kernel_rfl) (by kernel_rfl) ((Below.refl _ w2).drew) ?_
    go_frame
    repeat (first | go_big_quiet_skip | (go_big_quiet_want; first
      | (with_reducible show Oper.quiet _ (Oper.mk _ (Op.nilCheck _) _ _ _ _) _ _ _; refine quiet_value (.pointer (some ⟨g, 0, none⟩)) (fun W _ => Ph.run_nilCheck rfl rfl) ?_; go_frame; go_big_quiet_on)
      | (with_reducible show Oper.quiet _ (Oper.mk (some 16) _ _ _ _ _) _ _ _; refine quiet_value (.pointer (some ⟨g, 1, none⟩)) (fun W _ => by go_simp) ?_; go_frame; go_big_quiet_on)
      | (with_reducible show Oper.quiet _ (Oper.mk (some 17) _ _ _ _ _) _ _ _; refine quiet_load_one 41 (.tmp 16) rfl g 1 rfl (.slice Aw n cw) (fun W hW => ld41 (HC1.out W hW)) ?_; go_frame; go_big_quiet_on)
      | (with_reducible show Oper.quiet _ (Oper.mk (some 18) _ _ _ _ _) _ _ _; refine quiet_value (.func (.func 120) #[] #[.pointer (some ⟨gt, 0, none⟩)]) (fun W hW => by have := HCF.out W hW; go_simp) ?_; go_frame; go_big_quiet_on)
      | (with_reducible show Oper.quiet _ (Oper.mk (some 19) _ _ _ _ _) _ _ _; refine quiet_call 79 #[.slice Aw n cw, .func (.func 120) #[] #[.pointer (some ⟨gt, 0, none⟩)]] (.bool false) (fun W _ => by go_simp) (fun W hW => (HCON.out W hW).mono fun e w' h => ⟨h.1, hW.trans (h.2.mono hW.size)⟩) ?_; go_frame; go_big_quiet_on)
      | (with_reducible show Oper.quiet _ (Oper.mk (some 20) _ _ _ _ _) _ _ _; refine quiet_value (.bool true) (fun W _ => by go_simp) ?_; go_frame; go_big_quiet_on)
      | (go_big_quiet_op; go_big_quiet_on)))
    refine wpQuiet_nil ?_
    intro w3 hb3
    have HB3 := Lib.hid hb3
    clear hb3
    go_wp2_with fail
    (try simp only [Exit.inBlock, Exit.then])
    refine bodyPost_ret (results_none rfl _ _ _) rfl ?_
    refine ⟨rfl, F, .slice (some ⟨gs, 0, none⟩) l.length sc, .slice Aw ws.length cw, ?_, Wider.refl _ _ _, HO2.out.andThen HB3.out⟩
    have hm := none_made HAN.out.symm
    have e1 : cSafe l ws ts = l := safeN_none hm _ (Nat.le_refl _)
    have e2 : cLeft ws ts = ws := by
      have := leftN_none hm ws.length (Nat.le_refl _)
      rw [List.take_length] at this
      exact this
    rw [e1, e2]
    exact HCV2.out.below HB3.out
  | true =>
    go_enter Try.func115, Try.ntmps115
    go_wp2_with (first
      | (with_reducible show wpList _ _ _ (Oper.mk (some 4) (Op.alloc 127) _ _ _ _ :: _) _ _; go_must (refine wpList_wrun (w' := w1.alloc (.cells #[.nilFunc] 127)) rfl (.pointer (some ⟨w1.heap.size, 0, none⟩)) (Ph.run_alloc (z := .nilFunc) rfl (zero127 w1)) ?_; rw [← HGF.out, ← HGT.out]))
      | (with_reducible show wpList _ _ _ (Oper.mk none (Op.store 127 _ _) _ _ _ _ :: _) _ _; go_must (refine wpList_done rfl w2 (Ph.run_store (X := .pointer (some ⟨gf, 0, none⟩)) (Y := .func (.func 120) #[] #[.pointer (some ⟨gt, 0, none⟩)]) rfl rfl rfl HSTF.out) ?_)))
    refine wp_region_quiet_all (fun W => Below w2.heap.size w2 W) (by kernel_rfl) (by kernel_rfl) ((Below.refl _ w2).drew) ?_
    go_frame
    repeat (first | go_big_quiet_skip | (go_big_quiet_want; first
      | (with_reducible show Oper.quiet _ (Oper.mk _ (Op.nilCheck _) _ _ _ _) _ _ _; refine quiet_value (.pointer (some ⟨g, 0, none⟩)) (fun W _ => Ph.run_nilCheck rfl rfl) ?_; go_frame; go_big_quiet_on)
      | (with_reducible show Oper.quiet _ (Oper.mk (some 16) _ _ _ _ _) _ _ _; refine quiet_value (.pointer (some ⟨g, 1, none⟩)) (fun W _ => by go_simp) ?_; go_frame; go_big_quiet_on)
      | (with_reducible show Oper.quiet _ (Oper.mk (some 17) _ _ _ _ _) _ _ _; refine quiet_load_one 41 (.tmp 16) rfl g 1 rfl (.slice Aw n cw) (fun W hW => ld41 (HC1.out W hW)) ?_; go_frame; go_big_quiet_on)
      | (with_reducible show Oper.quiet _ (Oper.mk (some 18) _ _ _ _ _) _ _ _; refine quiet_value (.func (.func 120) #[] #[.pointer (some ⟨gt, 0, none⟩)]) (fun W hW => by have := HCF.out W hW; go_simp) ?_; go_frame; go_big_quiet_on)
      | (with_reducible show Oper.quiet _ (Oper.mk (some 19) _ _ _ _ _) _ _ _; refine quiet_call 79 #[.slice Aw n cw, .func (.func 120) #[] #[.pointer (some ⟨gt, 0, none⟩)]] (.bool true) (fun W _ => by go_simp) (fun W hW => (HCON.out W hW).mono fun e w' h => ⟨h.1, hW.trans (h.2.mono hW.size)⟩) ?_; go_frame; go_big_quiet_on)
      | (with_reducible show Oper.quiet _ (Oper.mk (some 20) _ _ _ _ _) _ _ _; refine quiet_value (.bool false) (fun W _ => by go_simp) ?_; go_frame; go_big_quiet_on)
      | (go_big_quiet_op; go_big_quiet_on)))
    refine wpQuiet_nil ?_
    intro w3 hb3
    -- the greatest epoch
    obtain ⟨gp, hgp⟩ : ∃ gp, gp = w3.heap.size := ⟨_, rfl⟩
    have hp0 : Blk (w3.alloc (.cells #[.int .i64 0] 3)) gp 3 #[.int .i64 0] := by rw [hgp]; exact Blk.new w3 3 _
    have hstp := st3i (x := lowM) (hp0.cell 0) (hp0.frozen 0)
    have hp1 := hp0.set_ 0 (.int .i64 lowM)
    have hb4 : Below w3.heap.size w3 ((w3.alloc (.cells #[.int .i64 0] 3)).setCell ⟨gp, 0, none⟩ (.int .i64 lowM)) := ((Below.refl _ w3).alloc (Nat.le_refl _) _).setCell (p := ⟨gp, 0, none⟩) (by rw [hgp]; exact Nat.le_refl _) _
    obtain ⟨w4, hw4⟩ : ∃ w4, (w3.alloc (.cells #[.int .i64 0] 3)).setCell ⟨gp, 0, none⟩ (.int .i64 lowM) = w4 := ⟨_, rfl⟩
    rw [hw4] at hstp hp1 hb4
    have hbb := hb3.trans (hb4.mono hb3.size)
    have hCT : CsT w F g l ws (.slice (some ⟨gs, 0, none⟩) l.length sc) (.slice Aw ws.length cw) gt gf gp A c ts (topM ws ts 0) w4 :=
      ⟨HCV2.out.below hbb, HT2.out.below hbb HT2.out.lt, HF2.out.below hbb HF2.out.lt, by rw [show topM ws ts 0 = lowM from rfl]; simpa using hp1, HO2.out.andThen hbb⟩
    have HCT := Lib.hid hCT
    have HGP : Hid (w.heap.size ≤ gp) := Lib.hid (by rw [hgp]; exact Nat.le_trans HO2.out.size hb3.size)
    have HGP3 := Lib.hid hgp
    have HSTP := Lib.hid hstp
    have c1 : w4.cell? ⟨g, 1, none⟩ = some (.slice Aw n cw) := HC1.out w4 hbb
    clear hb3 hp0 hstp hp1 hb4 hw4 hbb hCT hgp HCON HC1 HCF HSTF
    go_wp2_with (first
      | (with_reducible show wpList _ _ _ (Oper.mk (some 5) (Op.alloc 3) _ _ _ _ :: _) _ _; go_must (refine wpList_wrun (w' := w3.alloc (.cells #[.int .i64 0] 3)) rfl (.pointer (some ⟨w3.heap.size, 0, none⟩)) (Ph.run_alloc (z := .int .i64 0) rfl (zero3v w3)) ?_; rw [← HGP3.out]))
      | (with_reducible show wpList _ _ _ (Oper.mk none (Op.store 3 _ _) _ _ _ _ :: _) _ _; go_must (refine wpList_done rfl w4 (Ph.run_store (X := .pointer (some ⟨gp, 0, none⟩)) (Y := .int .i64 lowM) rfl rfl rfl HSTP.out) ?_)))
    clear c1 hw1
    go_loopw [26] (fun i wr => ∃ k : Nat, k ≤ n ∧ i = .int .i64 k ∧ Hid (CsT w F g l ws (.slice (some ⟨gs, 0, none⟩) l.length sc) (.slice Aw ws.length cw) gt gf gp A c ts (topM ws ts k) wr)) (fun i _ => n - (intOf i).toNat)
    case atStart => exact ⟨0, by omega, rfl, HCT⟩
    case round =>
      obtain ⟨k, hk, rfl, HI⟩ := hrel
      by_cases hlt : k < n
      · obtain ⟨x, hx⟩ : ∃ x, ws[k]? = some x := ⟨_, List.getElem?_eq_getElem (by rw [← HN.out]; exact hlt)⟩
        obtain ⟨m, hm⟩ : ∃ m, m = topM ws ts k := ⟨_, rfl⟩
        rw [← hm] at HI
        have HSTEP : Hid (topM ws ts (k + 1) = topMS ts x m) := Lib.hid (by rw [topM_step hx, hm])
        obtain ⟨A', c', eA, hrd⟩ := own_slice HI.out.cv.wait.1
        obtain ⟨rfl, rfl⟩ : Aw = A' ∧ cw = c' := by injection eA with e1 e2 e3; exact ⟨e1, e3⟩
        obtain ⟨bb, o, rfl, hbb, hit⟩ := hrd.item (f := cellsW) cellsW_len (by omega) (k := k) (by rw [← HN.out]; exact hlt)
        have HIT := Lib.hid (hit k x hx)
        obtain ⟨w5, hw5⟩ : ∃ w5, wr.alloc (.cells (cellsW x).toArray 108) = w5 := ⟨_, rfl⟩
        have hk5 : Blk w5 wr.heap.size 108 (cellsW x).toArray := by rw [← hw5]; exact Blk.new wr 108 _
        have hb5 : Below wr.heap.size wr w5 := by rw [← hw5]; exact (Below.refl _ wr).alloc (Nat.le_refl _) _
        have hst := store108 wr x zeroWr
        rw [hw5] at hst
        have hI5 := HI.out.below hb5
        have HOF := Lib.hid (of_c x gt c A ts w5 HTL.out hI5.t (HR.out w5 hI5.only))
        have cf : w5.cell? ⟨gf, 0, none⟩ = some (.func (.func 120) #[] #[.pointer (some ⟨gt, 0, none⟩)]) := hI5.f.cell 0
        have HI5 := Lib.hid hI5
        have HST := Lib.hid hst
        have HK5 := Lib.hid hk5
        have HX5 := Lib.hid (range0 hk5)
        have hl1 : (k : Int) < (n : Int) := by omega
        have hn5 := HNL.out
        clear hx hm eA hrd hbb hit hw5 hk5 hb5 hst hI5
        by_cases ht : x.tg ∈ ts
        · have HTT := Lib.hid ht
          have ed : decide (x.tg ∈ ts) = true := decide_eq_true ht
          rw [ed] at HOF
          clear ed ht
          go_wp2_with (first
            | (with_reducible show wpList _ _ _ (Oper.mk (some 29) (Op.load 108 _) _ _ _ _ :: _) _ _; go_must (refine wpList_load_mid rfl 108 (.tmp 28) rfl bb _ rfl (cellsW x) _ HIT.out Try.underlying108 rfl (by rw [cellsW_len]; exact info108) ?_))
            | (with_reducible show wpList _ _ _ (Oper.mk _ (Op.alloc 108) _ _ _ _ :: _) _ _; go_must (refine wpList_run rfl (.pointer (some ⟨wr.heap.size, 0, none⟩)) (wr.alloc (.cells (cellsW zeroWr).toArray 108)) (Ph.run_alloc (z := .agg (cellsW zeroWr).toArray) rfl (zW wr)) ?_))
            | (with_reducible show wpList _ _ _ (Oper.mk none (Op.store 108 _ _) _ _ _ _ :: _) _ _; go_must (refine wpList_done rfl w5 (Ph.run_store (X := .pointer (some ⟨wr.heap.size, 0, none⟩)) (Y := .agg (cellsW x).toArray) rfl rfl rfl HST.out) ?_))
            | (with_reducible show wpList _ _ _ (Oper.mk (some 31) (Op.load 108 _) _ _ _ _ :: _) _ _; go_must (refine wpList_load_mid rfl 108 (.tmp 7) rfl wr.heap.size 0 rfl (cellsW x) _ HX5.out Try.underlying108 rfl (by rw [cellsW_len]; exact info108) ?_))
            | (go_at_call 120; refine HOF.out.mono ?_; rintro e w6 ⟨rfl, hb6⟩; have hI6 := HI5.out.below hb6; have cp : w6.cell? ⟨gp, 0, none⟩ = some (.int .i64 m) := hI6.p.cell 0; have ce : w6.cell? ⟨wr.heap.size, 35, none⟩ = some (.int .i64 x.ep) := (HK5.out.below hb6 HK5.out.lt).list (cellsW_ep x); have hst6 := st3i (x := max m x.ep) (hI6.p.cell 0) (hI6.p.frozen 0); have hI7 := hI6.top (m2 := max m x.ep) HGP.out HLT.out; obtain ⟨w7, hw7⟩ : ∃ w7, w6.setCell ⟨gp, 0, none⟩ (.int .i64 (max m x.ep)) = w7 := ⟨_, rfl⟩; rw [hw7] at hst6 hI7; have HST6 := Lib.hid hst6; have HI7 := Lib.hid hI7; clear hb6 hI6 hst6 hI7 hw7)
            | (with_reducible show wpList _ _ _ (Oper.mk (some 36) _ _ _ _ _ :: _) _ _; go_must (refine wpList_run rfl (.int .i64 (max m x.ep)) _ (run_max2 (X := m) (Y := x.ep) rfl rfl rfl) ?_))
            | (with_reducible show wpList _ _ _ (Oper.mk none (Op.store 3 _ _) _ _ _ _ :: _) _ _; go_must (refine wpList_done rfl w7 (Ph.run_store (X := .pointer (some ⟨gp, 0, none⟩)) (Y := .int .i64 (max m x.ep)) rfl rfl rfl HST6.out) ?_)))
          exact ⟨⟨k + 1, by omega, by go_num, Lib.hid (by rw [HSTEP.out]; unfold topMS; rw [if_pos HTT.out]; exact HI7.out)⟩, by simp [intOf]; omega⟩
        · have HTT := Lib.hid ht
          have ed : decide (x.tg ∈ ts) = false := decide_eq_false ht
          rw [ed] at HOF
          clear ed ht
          go_wp2_with (first
            | (with_reducible show wpList _ _ _ (Oper.mk (some 29) (Op.load 108 _) _ _ _ _ :: _) _ _; go_must (refine wpList_load_mid rfl 108 (.tmp 28) rfl bb _ rfl (cellsW x) _ HIT.out Try.underlying108 rfl (by rw [cellsW_len]; exact info108) ?_))
            | (with_reducible show wpList _ _ _ (Oper.mk _ (Op.alloc 108) _ _ _ _ :: _) _ _; go_must (refine wpList_run rfl (.pointer (some ⟨wr.heap.size, 0, none⟩)) (wr.alloc (.cells (cellsW zeroWr).toArray 108)) (Ph.run_alloc (z := .agg (cellsW zeroWr).toArray) rfl (zW wr)) ?_))
            | (with_reducible show wpList _ _ _ (Oper.mk none (Op.store 108 _ _) _ _ _ _ :: _) _ _; go_must (refine wpList_done rfl w5 (Ph.run_store (X := .pointer (some ⟨wr.heap.size, 0, none⟩)) (Y := .agg (cellsW x).toArray) rfl rfl rfl HST.out) ?_))
            | (with_reducible show wpList _ _ _ (Oper.mk (some 31) (Op.load 108 _) _ _ _ _ :: _) _ _; go_must (refine wpList_load_mid rfl 108 (.tmp 7) rfl wr.heap.size 0 rfl (cellsW x) _ HX5.out Try.underlying108 rfl (by rw [cellsW_len]; exact info108) ?_))
            | (go_at_call 120; refine HOF.out.mono ?_; rintro e w6 ⟨rfl, hb6⟩; have HI6 := Lib.hid (HI5.out.below hb6); clear hb6))
          exact ⟨⟨k + 1, by omega, by go_num, Lib.hid (by rw [HSTEP.out]; unfold topMS; rw [if_neg HTT.out]; exact HI6.out)⟩, by simp [intOf]; omega⟩
      · have hkn : k = n := by omega
        subst hkn
        clear HCT hlt hk HGP3 HSTP
        obtain ⟨m, hm⟩ : ∃ m, m = topM ws ts k := ⟨_, rfl⟩
        rw [← hm] at HI
        have HMK : Hid (madeC ts m = cMk ws ts) := Lib.hid (by rw [hm, HN.out]; exact madeC_eq HEP.out HAN.out.symm)
        -- the variable 'made'
        obtain ⟨gm, hgm⟩ : ∃ gm, gm = wr.heap.size := ⟨_, rfl⟩
        have hf0 : Blk (wr.alloc (.cells #[.nilFunc] 127)) gm 127 #[.nilFunc] := by rw [hgm]; exact Blk.new wr 127 _
        have hstf := st127 (f := .func 122) (a := #[]) (b := #[.pointer (some ⟨gf, 0, none⟩), .pointer (some ⟨gp, 0, none⟩)]) (hf0.cell 0) (hf0.frozen 0)
        have hf1 := hf0.set_ 0 (.func (.func 122) #[] #[.pointer (some ⟨gf, 0, none⟩), .pointer (some ⟨gp, 0, none⟩)])
        have hb5 : Below wr.heap.size wr ((wr.alloc (.cells #[.nilFunc] 127)).setCell ⟨gm, 0, none⟩ (.func (.func 122) #[] #[.pointer (some ⟨gf, 0, none⟩), .pointer (some ⟨gp, 0, none⟩)])) := ((Below.refl _ wr).alloc (Nat.le_refl _) _).setCell (p := ⟨gm, 0, none⟩) (by rw [hgm]; exact Nat.le_refl _) _
        obtain ⟨w5, hw5⟩ : ∃ w5, (wr.alloc (.cells #[.nilFunc] 127)).setCell ⟨gm, 0, none⟩ (.func (.func 122) #[] #[.pointer (some ⟨gf, 0, none⟩), .pointer (some ⟨gp, 0, none⟩)]) = w5 := ⟨_, rfl⟩
        rw [hw5] at hstf hf1 hb5
        have hT5 := HI.out.below hb5
        have HI5 : Hid (CsI w F g (safeN ws (cMk ws ts) l 0) ws (.slice (some ⟨gs, 0, none⟩) l.length sc) (.slice Aw ws.length cw) gt gf gp gm A c ts m w5) := Lib.hid ⟨hT5.cv, ⟨hT5.t, hT5.f, hT5.p, by simpa using hf1, HR.out w5 hT5.only⟩, hT5.only⟩
        have c1 : w5.cell? ⟨g, 1, none⟩ = some (.slice Aw k cw) := by rw [HN.out]; exact hT5.cv.blk.cell 1
        have HGM := Lib.hid hgm
        have HSTF := Lib.hid hstf
        obtain ⟨mk, hmk⟩ : ∃ mk, mk = cMk ws ts := ⟨_, rfl⟩
        rw [← hmk] at HI5 HMK
        have HMKE := Lib.hid hmk
        obtain ⟨L, hL⟩ : ∃ L, L = lastN ws mk ws.length := ⟨_, rfl⟩
        have HLE := Lib.hid hL
        clear hm hf0 hstf hf1 hb5 hw5 hT5 HI hgm hmk hL
        go_wp2_with (first
          | (with_reducible show wpList _ _ _ (Oper.mk (some 8) (Op.alloc 127) _ _ _ _ :: _) _ _; go_must (refine wpList_wrun (w' := wr.alloc (.cells #[.nilFunc] 127)) rfl (.pointer (some ⟨wr.heap.size, 0, none⟩)) (Ph.run_alloc (z := .nilFunc) rfl (zero127 wr)) ?_; rw [← HGM.out]))
          | (with_reducible show wpList _ _ _ (Oper.mk none (Op.store 127 _ _) _ _ _ _ :: _) _ _; go_must (refine wpList_done rfl w5 (Ph.run_store (X := .pointer (some ⟨gm, 0, none⟩)) (Y := .func (.func 122) #[] #[.pointer (some ⟨gf, 0, none⟩), .pointer (some ⟨gp, 0, none⟩)]) rfl rfl rfl HSTF.out) ?_)))
        clear c1
        go_loopw [44, 9] (fun i v wr => ∃ j : Nat, j ≤ k ∧ i = .int .i64 j ∧ Hid (CsI w F g (safeN ws mk l j) ws (.slice (some ⟨gs, 0, none⟩) l.length sc) (.slice Aw ws.length cw) gt gf gp gm A c ts m wr) ∧ Hid (wr.ownsRow w.heap.size 108 36 v (leftN ws mk L j).length ((leftN ws mk L j).flatMap cellsW))) (fun i _ _ => k - (intOf i).toNat)
        case atStart => exact ⟨0, by omega, rfl, HI5, Lib.hid (World.ownsRow_nil _ _ _ _)⟩
        case round =>
          clear HI5
          obtain ⟨j, hj, rfl, HI, HO⟩ := hrel
          by_cases hlt : j < k
          · obtain ⟨x, hx⟩ : ∃ x, ws[j]? = some x := ⟨_, List.getElem?_eq_getElem (by rw [← HN.out]; exact hlt)⟩
            obtain ⟨A', c', eA, hrd⟩ := own_slice HI.out.cv.wait.1
            obtain ⟨rfl, rfl⟩ : Aw = A' ∧ cw = c' := by injection eA with e1 e2 e3; exact ⟨e1, e3⟩
            obtain ⟨bb, o, rfl, hbb, hit⟩ := hrd.item (f := cellsW) cellsW_len (by omega) (k := j) (by rw [← HN.out]; exact hlt)
            have HIT := Lib.hid (hit j x hx)
            have HX := Lib.hid hx
            have hatx := HAT.out x (List.mem_of_getElem? hx)
            have hat2 : 0 ≤ x.at_ ∧ x.at_ < l.length := by simpa [atIn] using hatx
            obtain ⟨a0, ha0⟩ : ∃ a0 : Nat, x.at_ = a0 := ⟨x.at_.toNat, by omega⟩
            have haq : a0 < q := by have := HQ.out; omega
            have HA0 := Lib.hid ha0
            have HAQ := Lib.hid haq
            obtain ⟨gw, hgw⟩ : ∃ gw, gw = wr.heap.size := ⟨_, rfl⟩
            obtain ⟨w6, hw6⟩ : ∃ w6, wr.alloc (.cells (cellsW x).toArray 108) = w6 := ⟨_, rfl⟩
            have hk6 : Blk w6 gw 108 (cellsW x).toArray := by rw [← hw6, hgw]; exact Blk.new wr 108 _
            have hb6 : Below wr.heap.size wr w6 := by rw [← hw6]; exact (Below.refl _ wr).alloc (Nat.le_refl _) _
            have hst := store108 wr x zeroWr
            rw [hw6, ← hgw] at hst
            have hI6 := HI.out.below hb6
            have hMD := made_c hI6.clo HTL.out x
            rw [HMK.out] at hMD
            have HMD := Lib.hid hMD
            have cm : w6.cell? ⟨gm, 0, none⟩ = some (.func (.func 122) #[] #[.pointer (some ⟨gf, 0, none⟩), .pointer (some ⟨gp, 0, none⟩)]) := hI6.clo.m.cell 0
            have HI6 := Lib.hid hI6
            have HO6 := Lib.hid (own_below HO.out hb6)
            have HST := Lib.hid hst
            have HK6 := Lib.hid hk6
            have HX6 := Lib.hid (range0 hk6)
            have HGWX := Lib.hid hgw
            have HGW6 : Hid (w.heap.size ≤ gw) := Lib.hid (by rw [hgw]; exact HI.out.only.size)
            have hl1 : (j : Int) < (k : Int) := by omega
            have hn5 := HNL.out
            obtain ⟨md, hmd⟩ : ∃ b, b = mk x := ⟨_, rfl⟩
            rw [← hmd] at HMD
            have HMDE := Lib.hid hmd
            obtain ⟨LN, hLN⟩ : ∃ LN, LN = leftN ws mk L j := ⟨_, rfl⟩
            rw [← hLN] at HO6
            have HLN := Lib.hid hLN
            have HLNL : Hid (LN.length ≤ 1000) := Lib.hid (by rw [hLN]; have := leftN_le ws mk L j; omega)
            clear hx eA hrd hbb hit hatx hat2 ha0 haq hgw hw6 hk6 hb6 hst hI6 hMD hmd hLN HO HI
            cases md with
            | true =>
              go_wp2_with (first
                | (with_reducible show wpList _ _ _ (Oper.mk (some 48) (Op.load 108 _) _ _ _ _ :: _) _ _; go_must (refine wpList_load_mid rfl 108 (.tmp 47) rfl bb _ rfl (cellsW x) _ HIT.out Try.underlying108 rfl (by rw [cellsW_len]; exact info108) ?_))
                | (with_reducible show wpList _ _ _ (Oper.mk _ (Op.alloc 108) _ _ _ _ :: _) _ _; go_must (refine wpList_run rfl (.pointer (some ⟨wr.heap.size, 0, none⟩)) (wr.alloc (.cells (cellsW zeroWr).toArray 108)) (Ph.run_alloc (z := .agg (cellsW zeroWr).toArray) rfl (zW wr)) ?_; rw [← HGWX.out]))
                | (with_reducible show wpList _ _ _ (Oper.mk none (Op.store 108 _ _) _ _ _ _ :: _) _ _; go_must (refine wpList_done rfl w6 (Ph.run_store (X := .pointer (some ⟨gw, 0, none⟩)) (Y := .agg (cellsW x).toArray) rfl rfl rfl HST.out) ?_))
                | (with_reducible show wpList _ _ _ (Oper.mk (some 51) (Op.load 108 _) _ _ _ _ :: _) _ _; go_must (refine wpList_load_mid rfl 108 (.tmp 11) rfl gw 0 rfl (cellsW x) _ HX6.out Try.underlying108 rfl (by rw [cellsW_len]; exact info108) ?_))
                | (go_at_call 122; refine HMD.out.mono ?_; rintro e w7 ⟨rfl, hb7⟩; have HI7 := Lib.hid (HI6.out.below hb7); have HK7 := Lib.hid (HK6.out.below hb7 HK6.out.lt); have HO7 := Lib.hid (own_below HO6.out hb7); clear hb7))
              have c0 : w7.cell? ⟨g, 0, none⟩ = some (.slice (some ⟨gs, 0, none⟩) q sc) := by rw [HQ.out]; exact HI7.out.cv.blk.cell 0
              have ca : w7.cell? ⟨gw, 0, none⟩ = some (.int .i64 (a0 : Nat)) := by rw [← HA0.out]; exact HK7.out.list (cellsW_at x)
              have HC0 := Lib.hid c0
              have HCA := Lib.hid ca
              have HGL := Lib.hid HI7.out.cv.blk.lt
              have HWL := Lib.hid HK7.out.lt
              have HRG := Lib.hid (HK7.out.range 1 _ (w_sec x))
              have haq2 : (a0 : Int) < (q : Int) := by have := HAQ.out; omega
              clear c0 ca
              refine wp_region_quiet_tail (fun W => Below w7.heap.size w7 W) 9 (by kernel_rfl) (by kernel_rfl) ((Below.refl _ w7).drew) ?_
              simp only [List.take_succ_cons, List.take_zero, List.drop_succ_cons, List.drop_zero]
              try go_frame
              repeat (first | go_big_quiet_skip | (go_big_quiet_want; first
                | (with_reducible show Oper.quiet _ (Oper.mk _ (Op.nilCheck _) _ _ _ _) _ _ _; refine quiet_value (.pointer (some ⟨g, 0, none⟩)) (fun W _ => Ph.run_nilCheck rfl rfl) ?_; go_frame; go_big_quiet_on)
                | (with_reducible show Oper.quiet _ (Oper.mk (some 55) _ _ _ _ _) _ _ _; refine quiet_value (.pointer (some ⟨g, 0, none⟩)) (fun W _ => by go_simp) ?_; go_frame; go_big_quiet_on)
                | (with_reducible show Oper.quiet _ (Oper.mk (some 56) _ _ _ _ _) _ _ _; refine quiet_load_one 40 (.tmp 55) rfl g 0 rfl (.slice (some ⟨gs, 0, none⟩) q sc) (fun W hW => ld40 ((hW.cell (p := ⟨g, 0, none⟩) HGL.out).trans HC0.out)) ?_; go_frame; go_big_quiet_on)
                | (with_reducible show Oper.quiet _ (Oper.mk (some 57) _ _ _ _ _) _ _ _; refine quiet_value (.pointer (some ⟨gw, 0, none⟩)) (fun W _ => by go_simp) ?_; go_frame; go_big_quiet_on)
                | (with_reducible show Oper.quiet _ (Oper.mk (some 58) _ _ _ _ _) _ _ _; refine quiet_load_one 3 (.tmp 57) rfl gw 0 rfl (.int .i64 (a0 : Nat)) (fun W hW => ld3 ((hW.cell (p := ⟨gw, 0, none⟩) HWL.out).trans HCA.out)) ?_; go_frame; go_big_quiet_on)
                | (with_reducible show Oper.quiet _ (Oper.mk (some 59) _ _ _ _ _) _ _ _; refine quiet_value (.pointer (some ⟨gw, 1, none⟩)) (fun W _ => by go_simp) ?_; go_frame; go_big_quiet_on)
                | (with_reducible show Oper.quiet _ (Oper.mk (some 60) _ _ _ _ _) _ _ _; refine quiet_load_mid 66 (.tmp 59) rfl gw 1 rfl (cellsS x.s) _ (fun W hW => rangeAt_below HRG.out hW HWL.out) Try.underlying66 rfl (by rw [cellsS_len]; exact info66) ?_; go_frame; go_big_quiet_on)
                | (with_reducible show Oper.quiet _ (Oper.mk (some 61) _ _ _ _ _) _ _ _; refine quiet_value (.pointer (some ⟨gs, a0 * 32, none⟩)) (fun W _ => by go_simp) ?_; go_frame; go_big_quiet_on)
                | (go_big_quiet_op; go_big_quiet_on)))
              refine wpQuiet_nil ?_
              intro w8 hw8
              have hI8 := HI7.out.below hw8
              have ho8 := hI8.cv.safe.1
              rw [safeN_len, ← HQ.out] at ho8
              have HI8 := Lib.hid hI8
              have HO8 := Lib.hid ho8
              have HL8 := Lib.hid (own_below HO7.out hw8)
              have HFIT : Hid (a0 * 32 + (cellsS x.s).length ≤ q * 32) := Lib.hid (by have := HAQ.out; rw [cellsS_len]; omega)
              have HALN : Hid (a0 < (safeN ws mk l j).length) := Lib.hid (by rw [safeN_len, ← HQ.out]; exact HAQ.out)
              clear hw8 hI8 ho8
              go_wp2_with (with_reducible show wpList _ _ _ (Oper.mk none (Op.store 66 _ _) _ _ _ _ :: _) _ _; go_must (refine wpList_store_own rfl 66 (.tmp 61) (.tmp 60) rfl HO8.out (a0 * 32) (cellsS x.s) rfl rfl HFIT.out (by rw [cellsS_len]; exact info66) (cellsS_one _) ?_; intro w9 ho9 hg9 hs9; have HO9 := Lib.hid ho9; have HG9 := Lib.hid hg9; clear ho9 hg9 hs9))
              have e9 : safeN ws mk l (j + 1) = (safeN ws mk l j).set a0 x.s := by rw [safeN_yes HX.out HMDE.out.symm, HA0.out]; rfl
              have el : leftN ws mk L (j + 1) = LN := by
                rw [leftN_no HX.out, HLN.out]
                unfold keepB
                rw [← HMDE.out]; rfl
              refine ⟨⟨j + 1, by omega, by go_num, Lib.hid ?_, Lib.hid ?_⟩, by simp [intOf]; omega⟩
              · rw [e9]
                have ho9 := HO9.out
                rw [← cat_set cellsS 32 cellsS_len _ a0 x.s HALN.out] at ho9
                refine HI8.out.put ?_ ?_ HR.out
                · rw [List.length_set, safeN_len]
                  rw [HQ.out] at ho9; exact ho9
                · exact HG9.out
              · rw [el]
                exact ((OnlyF.refl (fun z => z = gs) _).grown HG9.out (fun z e _ => by cases e; rfl)).own HL8.out (fun z hz e => by
                  have h1 := (HL8.out.lt z hz).1
                  have h2 := HLT.out gs (HI8.out.cv.safe.2 gs rfl)
                  omega)
            | false =>
              obtain ⟨an, han⟩ : ∃ b, b = anyB ws mk x.at_ j ws.length := ⟨_, rfl⟩
              have HKP : Hid (keepB mk L j x = !an) := Lib.hid (by rw [HLE.out, keepB_eq rfl, ← HMDE.out, han]; rfl)
              have HANY : Hid ((ws.drop (j + 1)).any (fun y => decide (y.at_ = x.at_) && mk y) = an) := Lib.hid (by
                rw [han]
                unfold anyB
                rw [List.take_length]
                congr 1
                funext y
                rw [Bool.and_comm])
              have hlen : (ws.drop (j + 1)).length = k - (j + 1) := by rw [List.length_drop, ← HN.out]
              have HLEN := Lib.hid hlen
              obtain ⟨A2, hA2⟩ : ∃ A2, A2 = (if cw = j + 1 then some ⟨bb, o, none⟩ else (some ⟨bb, o, none⟩ : Option Addr).map (·.add ((j + 1) * 36))) := ⟨_, rfl⟩
              have HSL : Hid (∀ W, (Instr.sliceAt 41 (.slice (some ⟨bb, o, none⟩) k cw) (some (.int .i64 ((j + 1 : Nat) : Int))) none none).run Try.prog W = .ok (.slice A2 (k - (j + 1)) (cw - (j + 1))) W) := Lib.hid (fun W => by rw [hA2]; exact sl41 (by omega) W)
              have HA2 : Hid (j + 1 < k → A2 = some ⟨bb, o + (j + 1) * 36, none⟩) := Lib.hid (fun h => by
                have := HNC.out
                rw [hA2, if_neg (by omega)]
                rfl)
              clear han hlen hA2
              obtain ⟨i108, z108, hi8, hz8, hs8, hby8, hzs8⟩ := row108'
              have HI8 := Lib.hid hi8
              have HZ8 := Lib.hid hz8
              have HS8 := Lib.hid hs8
              have HBY8 := Lib.hid hby8
              have HZS8 := Lib.hid hzs8
              clear hi8 hz8 hs8 hby8 hzs8
              cases an
              all_goals
                go_wp2_with (first
                | (with_reducible show wpList _ _ _ (Oper.mk (some 48) (Op.load 108 _) _ _ _ _ :: _) _ _; go_must (refine wpList_load_mid rfl 108 (.tmp 47) rfl bb _ rfl (cellsW x) _ HIT.out Try.underlying108 rfl (by rw [cellsW_len]; exact info108) ?_))
                | (with_reducible show wpList _ _ _ (Oper.mk _ (Op.alloc 108) _ _ _ _ :: _) _ _; go_must (refine wpList_run rfl (.pointer (some ⟨wr.heap.size, 0, none⟩)) (wr.alloc (.cells (cellsW zeroWr).toArray 108)) (Ph.run_alloc (z := .agg (cellsW zeroWr).toArray) rfl (zW wr)) ?_; rw [← HGWX.out]))
                | (with_reducible show wpList _ _ _ (Oper.mk none (Op.store 108 _ _) _ _ _ _ :: _) _ _; go_must (refine wpList_done rfl w6 (Ph.run_store (X := .pointer (some ⟨gw, 0, none⟩)) (Y := .agg (cellsW x).toArray) rfl rfl rfl HST.out) ?_))
                | (with_reducible show wpList _ _ _ (Oper.mk (some 51) (Op.load 108 _) _ _ _ _ :: _) _ _; go_must (refine wpList_load_mid rfl 108 (.tmp 11) rfl gw 0 rfl (cellsW x) _ HX6.out Try.underlying108 rfl (by rw [cellsW_len]; exact info108) ?_))
                  | (go_at_call 122; refine HMD.out.mono ?_; rintro e w7 ⟨rfl, hb7⟩; have hI7 := HI6.out.below hb7; have hk7 := HK6.out.below hb7 HK6.out.lt; have c1 : w7.cell? ⟨g, 1, none⟩ = some (.slice (some ⟨bb, o, none⟩) k cw) := (by rw [HN.out]; exact hI7.cv.blk.cell 1); have hcf := (show Calls Try.prog 79 #[.slice A2 (k - (j + 1)) (cw - (j + 1)), .func (.func 123) #[] #[.pointer (some ⟨gw, 0, none⟩), .pointer (some ⟨gm, 0, none⟩)]] w7 fun o w' => o = .returned (.bool ((ws.drop (j + 1)).any (fun y => decide (y.at_ = x.at_) && mk y))) ∧ Below w7.heap.size w7 w' from (by rw [← HLEN.out]; refine contains_func2 A2 (cw - (j + 1)) (ws.drop (j + 1)) 123 _ _ _ w7 (by rw [HLEN.out]; omega) (by have h5 := Reads.of_own hI7.cv.wait.1; rw [← HN.out] at h5; rw [HLEN.out]; exact reads_drop cellsW_len HN.out.symm h5 (j + 1) (by omega) A2 HA2.out) (fun y W hb => (by have := later_c (hI7.clo.below hb) (hk7.below hb hk7.lt) HTL.out y; rw [HMK.out] at this; exact this)) (fun a W => hcf123 a _ _ W))); rw [HANY.out] at hcf; have HCF := Lib.hid hcf; have HI7 := Lib.hid hI7; have HK7 := Lib.hid hk7; have HO7 := Lib.hid (own_below HO6.out hb7); clear hb7 hI7 hk7 hcf)
                  | (with_reducible show wpList _ _ _ (Oper.mk (some 67) _ _ _ _ _ :: _) _ _; go_must (refine wpList_wrun rfl _ (Ph.run_bin (X := .int .i64 (j : Nat)) (Y := .int .i64 1) rfl rfl rfl rfl (HADD.out j _ (by omega))) ?_))
                  | (with_reducible show wpList _ _ _ (Oper.mk (some 68) _ _ _ _ _ :: _) _ _; go_must (refine wpList_wrun rfl _ (run_slice_lo (X := .slice (some ⟨bb, o, none⟩) k cw) (I := .int .i64 ((j + 1 : Nat) : Int)) rfl rfl rfl (HSL.out _)) ?_))
                  | (go_at_call 79; refine HCF.out.mono ?_; rintro e w8 ⟨rfl, hb8⟩; have HI8' := Lib.hid (HI7.out.below hb8); have HK8 := Lib.hid (range0 (HK7.out.below hb8 HK7.out.lt)); have HO8 := Lib.hid (own_below HO7.out hb8); clear hb8)
                  | (with_reducible show wpList _ _ _ (Oper.mk (some 73) (Op.load 108 _) _ _ _ _ :: _) _ _; go_must (refine wpList_load_mid rfl 108 (.tmp 11) rfl gw 0 rfl (cellsW x) _ HK8.out Try.underlying108 rfl (by rw [cellsW_len]; exact info108) ?_))
                  | (with_reducible show wpList _ _ _ (Oper.mk _ (Op.buildSlice _ _ _) _ _ _ _ :: _) _ _; go_must (refine wpList_run rfl _ _ (run_bld1 (X := .agg (cellsW x).toArray) rfl rfl (bldW x w8)) ?_))
                  | (at_builtin; go_must (refine wpList_append_any _ rfl (.tmp 72) (.tmp 74) 41 rfl w.heap.size 108 i108 (.agg z108) 36 64 Try.underlying41 HI8.out HZ8.out HS8.out HBY8.out HZS8.out (by decide) _ LN.length (LN.flatMap cellsW) rfl (HO8.out.alloc _) (w8.heap.size + 1) (some ⟨w8.heap.size, 0, none⟩) 1 1 (cellsW x) rfl (by have := reads_blk (n := 1) (size := 36) (Blk.new w8 108 (cellsW x).toArray) (by rw [cellsW_len]); simpa using this) (cellsW_one x) (by unfold maxLen; have := HLNL.out; omega) (by have := HLNL.out; omega) (by have := HI8'.out.only.size; simp; omega) ?_; intro v9 w9 hown9 hgrow9 _; have HO9 := Lib.hid hown9; have HG9 := Lib.hid hgrow9; clear hown9 hgrow9)))
                have e9 : safeN ws mk l (j + 1) = safeN ws mk l j := safeN_no HX.out HMDE.out.symm
                first
                  | exact ⟨⟨j + 1, by omega, by go_num, Lib.hid (by rw [e9]; exact HI8'.out), Lib.hid (by rw [leftN_no HX.out HKP.out, ← HLN.out]; exact HO8.out)⟩, by simp [intOf]; omega⟩
                  | exact ⟨⟨j + 1, by omega, by go_num, Lib.hid (by rw [e9]; exact (HI8'.out.below ((Below.refl _ w8).alloc (Nat.le_refl _) (.cells (cellsW x).toArray 108))).left HLT.out (HO8.out.alloc (.cells (cellsW x).toArray 108)) HG9.out HR.out), Lib.hid (by rw [leftN_yes HX.out HKP.out, ← HLN.out]; simpa using HO9.out)⟩, by simp [intOf]; omega⟩
          · have hjk : j = k := by omega
            subst hjk
            obtain ⟨LN, hLN⟩ : ∃ LN, LN = leftN ws mk L j := ⟨_, rfl⟩
            rw [← hLN] at HO
            have HLN := Lib.hid hLN
            obtain ⟨A2, c2, rfl, _⟩ := own_slice HO.out
            obtain ⟨N2, hN2⟩ : ∃ n, n = LN.length := ⟨_, rfl⟩
            have ho := HO.out
            rw [← hN2] at ho ⊢
            have hst := st41 (A := A2) (n := N2) (c := c2) (HI.out.cv.blk.cell 1) (HI.out.cv.blk.frozen 1)
            have HT := Lib.hid (HI.out.cv.setWait HI.out.only HLT.out HO.out)
            rw [← hN2] at HT
            obtain ⟨w9, hw9⟩ : ∃ w9, wr.setCell ⟨g, 1, none⟩ (.slice A2 N2 c2) = w9 := ⟨_, rfl⟩
            rw [hw9] at hst HT
            have HST := Lib.hid hst
            clear hlt hj ho hst hw9 hN2 hLN
            go_wp2_with (with_reducible show wpList _ _ _ (Oper.mk none (Op.store 41 _ _) _ _ _ _ :: _) _ _; go_must (refine wpList_done rfl w9 (Ph.run_store (X := .pointer (some ⟨g, 1, none⟩)) (Y := .slice A2 N2 c2) rfl rfl rfl HST.out) ?_))
            go_end0
            refine ⟨rfl, ?_⟩
            have e1 : cSafe l ws ts = safeN ws mk l j := by unfold cSafe; rw [← HMKE.out, ← HN.out]
            have e2 : cLeft ws ts = LN := by unfold cLeft; rw [← HMKE.out, ← HLE.out, ← HN.out, HLN.out]
            rw [e1, e2]
            exact HT.out
end Go.Proofs.Ytikhhipgamllgaa
namespace Go.Proofs.Ytikhhipgamllgaa
open Go.RowKit Ph
set_option linter.unusedVariables false
/-! ### plain -/
def cDo (s : List Sec × List Wr) (e : Ev) : List Sec × List Wr := if e.kind = 1 then (s.1, s.2 ++ [e.w]) else if e.kind = 2 then (cSafe s.1 s.2 e.tags, cLeft s.2 e.tags) else s
def cRun (img : List Sec) (es : List Ev) : List Sec × List Wr := es.foldl cDo (img, [])
/-- what holds of a state behind k events -/
structure COk (q k : Nat) (s : List Sec × List Wr) : Prop where
  len : s.1.length = q
  wl : s.2.length ≤ k
  at_ : ∀ x ∈ s.2, atIn x.at_ q = true
  ep : ∀ x ∈ s.2, 0 ≤ x.ep
theorem COk.step {q k : Nat} {s : List Sec × List Wr} (h : COk q k s) {e : Ev} (ho : okE q e) (he : 0 ≤ e.w.ep) : COk q (k + 1) (cDo s e) := by
  unfold cDo
  rcases ho with ⟨hk, hw⟩ | hk | hk
  · rw [if_pos hk]
    refine ⟨h.len, by simp; exact h.wl, fun x hx => ?_, fun x hx => ?_⟩
    · rcases List.mem_append.1 hx with hx | hx
      · exact h.at_ x hx
      · cases List.mem_singleton.1 hx; exact hw
    · rcases List.mem_append.1 hx with hx | hx
      · exact h.ep x hx
      · cases List.mem_singleton.1 hx; exact he
  · rw [if_neg (by rw [hk]; decide), if_pos hk]
    exact ⟨(safeN_len _ _ _ _).trans h.len, Nat.le_succ_of_le (Nat.le_trans (leftN_le _ _ _ _) h.wl), fun x hx => h.at_ x (leftN_mem _ _ _ _ _ hx), fun x hx => h.ep x (leftN_mem _ _ _ _ _ hx)⟩
  · rw [if_neg (by rw [hk]; decide), if_neg (by rw [hk]; decide)]
    exact ⟨h.len, Nat.le_succ_of_le h.wl, h.at_, h.ep⟩
theorem cRun_succ {img : List Sec} {es : List Ev} {k : Nat} {e : Ev} (h : es[k]? = some e) : cRun img (es.take (k + 1)) = cDo (cRun img (es.take k)) e := by
  unfold cRun
  rw [List.take_add_one, h]
  simp
theorem cRun_ok {img : List Sec} {es : List Ev} (ho : ∀ e ∈ es, okE img.length e ∧ 0 ≤ e.w.ep) : ∀ k, k ≤ es.length → COk img.length k (cRun img (es.take k))
  | 0, _ => ⟨rfl, Nat.le_refl _, fun x hx => by simp [cRun] at hx, fun x hx => by simp [cRun] at hx⟩
  | k + 1, hk => by
    obtain ⟨e, he⟩ : ∃ e, es[k]? = some e := ⟨_, List.getElem?_eq_getElem (by omega)⟩
    obtain ⟨h1, h2⟩ := ho e (List.mem_of_getElem? he)
    rw [cRun_succ he]
    exact (cRun_ok ho k (by omega)).step h1 h2
def doA0 (g n c b3 : Nat) (A : Option Addr) (e : Ev) (xs : List Value) (Rd : Nat → Prop) : Lvs :=
  [eqv (.pointer (some ⟨g, 0, none⟩)),
   eqv (.pointer (some ⟨g, 0, none⟩)),
   eqv (.pointer (some ⟨g, 0, none⟩)),
   eqv (.pointer (some ⟨g, 1, none⟩)),
   eqv (.slice A n c),
   eqv (.pointer (some ⟨b3, 1, none⟩)),
   eqv (.agg (cellsW e.w).toArray),
   fun v w => ∃ b, v = .slice (some ⟨b, 0, none⟩) 1 1 ∧ Blk w b 108 (cellsW e.w).toArray,
   fun _ _ => False,
   fun _ _ => False,
   fun _ _ => False,
   fun _ _ => False]
def doA1 (g n c b3 : Nat) (A : Option Addr) (e : Ev) (xs : List Value) (Rd : Nat → Prop) : Lvs :=
  [eqv (.pointer (some ⟨g, 0, none⟩)),
   eqv (.pointer (some ⟨g, 0, none⟩)),
   eqv (.pointer (some ⟨g, 0, none⟩)),
   eqv (.pointer (some ⟨g, 1, none⟩)),
   eqv (.slice A n c),
   eqv (.pointer (some ⟨b3, 1, none⟩)),
   eqv (.agg (cellsW e.w).toArray),
   fun _ _ => True,
   fun v w => w.ownsRow 0 108 36 v (n + 1) (xs ++ (cellsW e.w)) ∧ ∀ k, v.ownBlock = some k → Rd k,
   eqv (.pointer (some ⟨g, 0, none⟩)),
   eqv (.pointer (some ⟨g, 1, none⟩)),
   fun _ _ => False]
def doA2 (g n c b3 : Nat) (A : Option Addr) (e : Ev) (xs : List Value) (Rd : Nat → Prop) : Lvs :=
  [eqv (.pointer (some ⟨g, 0, none⟩)),
   eqv (.pointer (some ⟨g, 0, none⟩)),
   eqv (.pointer (some ⟨g, 0, none⟩)),
   eqv (.pointer (some ⟨g, 1, none⟩)),
   eqv (.slice A n c),
   eqv (.pointer (some ⟨b3, 1, none⟩)),
   eqv (.agg (cellsW e.w).toArray),
   fun _ _ => True,
   fun _ _ => True,
   eqv (.pointer (some ⟨g, 0, none⟩)),
   eqv (.pointer (some ⟨g, 1, none⟩)),
   fun _ _ => True]
theorem doA_keep (g n c b3 : Nat) (A : Option Addr) (e : Ev) (xs : List Value) (Rd : Nat → Prop) : ∀ L ∈ [doA0 g n c b3 A e xs Rd, doA1 g n c b3 A e xs Rd, doA2 g n c b3 A e xs Rd], ∀ q ∈ L, Keeps (fun W W' => Below W.heap.size W W') q := by
  simp only [doA0, doA1, doA2, List.forall_mem_cons]
  refine ⟨?_, ?_, ?_, by simp⟩
  all_goals
    repeat (first | refine ⟨keep_eqv _ _, ?_⟩ | refine ⟨keep_pure _ _, ?_⟩ | refine ⟨keep_one _ _ _, ?_⟩ | refine ⟨keep_row _ _ _ _ _ _, ?_⟩)
    simp
theorem doA_turns (g n c b3 : Nat) (A : Option Addr) (e : Ev) (xs : List Value) (Rd : Nat → Prop) : TurnsAll [doA0 g n c b3 A e xs Rd, doA1 g n c b3 A e xs Rd, doA2 g n c b3 A e xs Rd] := by
  simp only [doA0, doA1, doA2, TurnsAll, Turns]
  refine ⟨?_, ?_, trivial⟩
  all_goals
    repeat (first | refine ⟨turn_eqv _, ?_⟩ | refine ⟨turn_true _, ?_⟩ | refine ⟨turn_false _, ?_⟩ | refine ⟨turn_pure _, ?_⟩)
    trivial
section
variable {w w2 : World} {F : Nat → Prop} {g : Nat} {l : List Sec} {ws ws2 : List Wr} {sv wv nv : Value}
theorem CV.pushed (h : CV w F g l ws sv wv) (hb2 : Blk w2 g 44 #[sv, nv]) (ho2 : w2.ownsRow 0 108 36 nv ws2.length (ws2.flatMap cellsW)) (hd : ∀ k, nv.ownBlock = some k → wv.ownBlock = some k ∨ w.heap.size ≤ k) (hO2 : OnlyF (fun k => k = g ∨ wv.ownBlock = some k) w w2) : CTurned w F g l ws2 w2 := by
  refine ⟨fun k => F k ∨ nv.ownBlock = some k, sv, nv, ⟨hb2, .inl h.own, fun k hk => hk.elim (fun hk => Nat.lt_of_lt_of_le (h.lt k hk) hO2.size) (fun hk => own_lt ho2 hk), ⟨hO2.own h.safe.1 (fun k hk hh => hh.elim (fun e => by subst e; exact own_blk_ne h.safe.1 h.blk (by decide) hk) (fun e => own_own_ne h.safe.1 h.wait.1 (by decide) hk e)), fun k hk => .inl (h.safe.2 k hk)⟩, ⟨ho2, fun k hk => .inr hk⟩⟩, fun k hk => ?_, hO2.mono (fun k hk => hk.elim (fun e => by subst e; exact h.own) (fun e => h.wait.2 k e))⟩
  rcases hk with hk | hk
  · exact .inl hk
  · rcases hd k hk with hh | hh
    · exact .inl (h.wait.2 k hh)
    · exact .inr ⟨hh, own_lt ho2 hk⟩
theorem CTurned.from_below {w' : World} (hb : Below w.heap.size w w2) (h : CTurned w2 F g l ws w') : CTurned w F g l ws w' := by
  obtain ⟨F', a, b, hc, hw, ho⟩ := h
  exact ⟨F', a, b, hc, Wider.trans (Wider.refl F w w2) hw hb.size ho.size, (OnlyF.of_below (F := F) hb).trans ho (fun _ _ h => h)⟩
end
theorem cellsE_tv (e : Ev) : (cellsE e)[37]? = some (.slice e.A e.tags.length e.c) := cellsE_v e
set_option maxRecDepth 100000 in
set_option maxHeartbeats 8000000 in
theorem do_any {w : World} {F : Nat → Prop} {g : Nat} {l : List Sec} {ws : List Wr} {sv wv : Value} (h : CV w F g l ws sv wv) (hl0 : 0 < l.length) (hl1 : l.length ≤ 1000) (hn : ws.length ≤ 1000) (hat : ∀ x ∈ ws, atIn x.at_ l.length = true) (hep : ∀ x ∈ ws, 0 ≤ x.ep)
    (e : Ev) (he : okE l.length e) (hts : e.tags.length ≤ 1000) (hr : ∀ W, OnlyF F w W → Reads W W.heap.size 2 e.A e.tags.length (e.tags.flatMap cellsT)) :
    Calls Try.prog 104 #[.pointer (some ⟨g, 0, none⟩), .agg (cellsE e).toArray] w fun o w' => o = .returned (.tuple #[]) ∧ CTurned w F g (cDo (l, ws) e).1 (cDo (l, ws) e).2 w' := by
  obtain ⟨w1, hw1⟩ : ∃ w1, w.alloc (.cells (cellsE e).toArray 142) = w1 := ⟨_, rfl⟩
  have hb1 : Below w.heap.size w w1 := by rw [← hw1]; exact (Below.refl _ w).alloc (Nat.le_refl _) _
  have hk1 : Blk w1 w.heap.size 142 (cellsE e).toArray := by rw [← hw1]; exact Blk.new w 142 _
  have h1 := h.below hb1
  obtain ⟨b3, hb3⟩ : ∃ b3, b3 = w.heap.size := ⟨_, rfl⟩
  have HB3E := Lib.hid hb3
  have c0 : w1.cell? ⟨w.heap.size, 0, none⟩ = some (.int .i64 e.kind) := hk1.list (cellsE_kind e)
  have HB1 := Lib.hid hb1
  rcases he with ⟨hk, hw⟩ | hk | hk
  · obtain ⟨A, c, rfl, _⟩ := own_slice h1.wait.1
    obtain ⟨n, hnn⟩ : ∃ n, n = ws.length := ⟨_, rfl⟩
    obtain ⟨xs, hxs⟩ : ∃ xs, xs = ws.flatMap cellsW := ⟨_, rfl⟩
    have ho := h1.wait.1
    rw [← hnn, ← hxs] at ho
    rw [← hnn] at h1 hn
    have HCV := Lib.hid h1
    have HO := Lib.hid ho
    have HN := Lib.hid hn
    have HN0 := Lib.hid hnn
    have HXS0 := Lib.hid hxs
    have HRG : Hid (w1.rangeAt b3 1 (cellsW e.w)) := Lib.hid (by
      rw [hb3]
      refine hk1.range 1 _ (fun j v hj => ?_)
      rw [List.getElem?_toArray]
      unfold cellsE
      rw [show 1 + j = j + 1 by omega, List.getElem?_cons_succ, List.getElem?_append_left (List.getElem?_eq_some_iff.1 hj).1]
      exact hj)
    have HB3 : Hid (b3 < w1.heap.size) := Lib.hid (by rw [hb3]; exact hk1.lt)
    obtain ⟨i, z, hi, hz, hs, hby, hzs⟩ := row108'
    have HI := Lib.hid hi
    have HZ := Lib.hid hz
    have HS := Lib.hid hs
    have HBY := Lib.hid hby
    have HZS := Lib.hid hzs
    have HRD : Hid (∀ k, (Value.slice A n c).ownBlock = some k ∨ w1.heap.size ≤ k → (Value.slice A n c).ownBlock = some k ∨ w1.heap.size ≤ k) := Lib.hid (fun _ h => h)
    have HKE : Hid (cDo (l, ws) e = (l, ws ++ [e.w])) := Lib.hid (by unfold cDo; rw [if_pos hk])
    rw [hk] at c0
    clear h h1 hb1 hk1 hl0 hl1 hn hat hep hts hr hw hk ho hnn hxs hb3 hi hz hs hby hzs
    go_enter Try.func104, Try.ntmps104
    go_wp2_with fail
    rw [← HB3E.out]
    clear c0 hw1
    refine Ph.wp_region_all (ph [doA0 g n c b3 A e xs (fun k => (Value.slice A n c).ownBlock = some k ∨ w1.heap.size ≤ k), doA1 g n c b3 A e xs (fun k => (Value.slice A n c).ownBlock = some k ∨ w1.heap.size ≤ k), doA2 g n c b3 A e xs (fun k => (Value.slice A n c).ownBlock = some k ∨ w1.heap.size ≤ k)]) (fun k _ W => match k with | 0 => Below w1.heap.size w1 W | 1 => OnlyF (fun k => (Value.slice A n c).ownBlock = some k) w1 W ∧ Blk W g 44 #[sv, .slice A n c] | 2 => ∃ nv, Blk W g 44 #[sv, nv] ∧ W.ownsRow 0 108 36 nv (n + 1) (xs ++ cellsW e.w) ∧ (∀ k, nv.ownBlock = some k → (Value.slice A n c).ownBlock = some k ∨ w1.heap.size ≤ k) ∧ OnlyF (fun k => k = g ∨ (Value.slice A n c).ownBlock = some k) w1 W | _ => False) (fun W W' => Below W.heap.size W W') (fun _ _ _ => True) [8, 11] [some 8, some 9, some 10, some 11, some 12, some 13, some 14, some 15, some 16, some 17, some 18, none] mixedP (by kernel_rfl) (by kernel_rfl) (by kernel_rfl) (by kernel_rfl) (ph_keep (doA_keep g n c b3 A e xs (fun k => (Value.slice A n c).ownBlock = some k ∨ w1.heap.size ≤ k))) (fun kx jx u W W' _ hs => ph_turn (doA_turns g n c b3 A e xs (fun k => (Value.slice A n c).ownBlock = some k ∨ w1.heap.size ≤ k)) kx jx u W W' hs) (Below.refl _ _).drew ?steps ?fin
    case steps =>
      refine all_lt 12 ?_
      simp only [AllLt]
      refine ⟨?_, ?_, ?_, ?_, ?_, ?_, ?_, ?_, ?_, ?_, ?_, ?_, trivial⟩
      · refine step_upto (by kernel_rfl) 1 [] (by kernel_rfl) fun k hk a W hJ hf => ?_
        rcases k with _ | k
        · have h0 : a.tmps[0]? = some (.pointer (some ⟨g, 0, none⟩)) := hf.old 0 (by kernel_rfl)
          apply op_value
          case ho => rfl
          case hw => exact (wanted_none rfl)
          case hrun => exact run_move (.inl rfl) (eval_tmp h0)
          case hS => exact rfl
          case hk => exact keep_refl _
          case hJ => exact hJ
        rcases k with _ | k
        · have h0 : a.tmps[0]? = some (.pointer (some ⟨g, 0, none⟩)) := hf.old 0 (by kernel_rfl)
          apply op_value
          case ho => rfl
          case hw => exact (wanted_none rfl)
          case hrun => exact run_move (.inl rfl) (eval_tmp h0)
          case hS => exact rfl
          case hk => exact keep_refl _
          case hJ => exact hJ
        · omega
      · refine step_upto (by kernel_rfl) 0 [4, 3, 2] (by kernel_rfl) fun k hk a W hJ hf => ?_
        rcases k with _ | k
        · have h0 : a.tmps[0]? = some (.pointer (some ⟨g, 0, none⟩)) := hf.old 0 (by kernel_rfl)
          apply op_value
          case ho => rfl
          case hw => exact (wanted_none rfl)
          case hrun => exact run_move (.inl rfl) (eval_tmp h0)
          case hS => exact rfl
          case hk => exact keep_refl _
          case hJ => exact hJ
        · omega
      · refine step_upto (by kernel_rfl) 0 [4, 3] (by kernel_rfl) fun k hk a W hJ hf => ?_
        rcases k with _ | k
        · obtain ⟨v9, h9, rfl⟩ := hf.get 1 9 (by kernel_rfl) (by kernel_rfl)
          apply op_value
          case ho => rfl
          case hw => exact (wanted_none rfl)
          case hrun => exact run_nilCheck rfl (eval_tmp h9)
          case hS => exact rfl
          case hk => exact keep_refl _
          case hJ => exact hJ
        · omega
      · refine step_upto (by kernel_rfl) 0 [4] (by kernel_rfl) fun k hk a W hJ hf => ?_
        rcases k with _ | k
        · obtain ⟨v10, h10, rfl⟩ := hf.get 2 10 (by kernel_rfl) (by kernel_rfl)
          apply op_value
          case ho => rfl
          case hw => exact (wanted_none rfl)
          case hrun => exact run_fieldAddr rfl (eval_tmp h10) (V := (.pointer (some ⟨g, 1, none⟩))) (by go_simp)
          case hS => exact rfl
          case hk => exact keep_refl _
          case hJ => exact hJ
        · omega
      · refine step_upto (by kernel_rfl) 0 [] (by kernel_rfl) fun k hk a W hJ hf => ?_
        rcases k with _ | k
        · obtain ⟨v11, h11, rfl⟩ := hf.get 3 11 (by kernel_rfl) (by kernel_rfl)
          apply op_value
          case ho => rfl
          case hw => exact (wanted_none rfl)
          case hrun => exact run_load rfl (eval_tmp h11) (ld41 ((HCV.out.below hJ).blk.cell 1))
          case hS => exact rfl
          case hk => exact keep_refl _
          case hJ => exact hJ
        · omega
      · refine step_upto (by kernel_rfl) 0 [7, 6] (by kernel_rfl) fun k hk a W hJ hf => ?_
        rcases k with _ | k
        · have h3 : a.tmps[3]? = some (.pointer (some ⟨b3, 0, none⟩)) := hf.old 3 (by kernel_rfl)
          apply op_value
          case ho => rfl
          case hw => exact (wanted_none rfl)
          case hrun => exact run_fieldAddr rfl (eval_tmp h3) (V := (.pointer (some ⟨b3, 1, none⟩))) (by go_simp)
          case hS => exact rfl
          case hk => exact keep_refl _
          case hJ => exact hJ
        · omega
      · refine step_upto (by kernel_rfl) 0 [7] (by kernel_rfl) fun k hk a W hJ hf => ?_
        rcases k with _ | k
        · obtain ⟨v13, h13, rfl⟩ := hf.get 5 13 (by kernel_rfl) (by kernel_rfl)
          apply op_value
          case ho => rfl
          case hw => exact (wanted_none rfl)
          case hrun => exact run_load rfl (eval_tmp h13) (run_loadAt_mid W b3 1 108 (cellsW e.w) _ (rangeAt_below HRG.out hJ HB3.out) Try.underlying108 rfl (by rw [cellsW_len]; exact info108))
          case hS => exact rfl
          case hk => exact keep_refl _
          case hJ => exact hJ
        · omega
      · refine step_upto (by kernel_rfl) 0 [] (by kernel_rfl) fun k hk a W hJ hf => ?_
        rcases k with _ | k
        · obtain ⟨v14, h14, rfl⟩ := hf.get 6 14 (by kernel_rfl) (by kernel_rfl)
          exact op_value rfl (wanted_none rfl) (Ph.run_buildSlice rfl (vs := #[(0, (.agg (cellsW e.w).toArray))]) (by simp [eval_tmp h14]) (bldW e.w W)) ⟨_, rfl, Blk.new W 108 _⟩ ((Below.refl _ W).alloc (Nat.le_refl _) _) (hJ.alloc hJ.size _)
        · omega
      · refine step_eff 0 (by kernel_rfl) (by kernel_rfl) (by kernel_rfl) fun a W hJ hf => ?_
        obtain ⟨v12, h12, rfl⟩ := hf.get 4 12 (by kernel_rfl) (by kernel_rfl)
        obtain ⟨v15, h15, b11, rfl, k11⟩ := hf.get 7 15 (by kernel_rfl) (by kernel_rfl)
        refine op_wp rfl (wanted_none rfl) ?_
        refine wp_append_any W (.tmp 12) (.tmp 15) 41 rfl 0 108 i (.agg z) 36 64 Try.underlying41 HI.out HZ.out HS.out HBY.out HZS.out (by decide) (.slice A n c) n xs (eval_tmp h12) (own_below HO.out hJ) W.heap.size (some ⟨b11, 0, none⟩) 1 1 (cellsW e.w) (eval_tmp h15) (reads_blk k11 (by rw [cellsW_len])) (cellsW_one _) (by unfold maxLen; have := HN.out; omega) (by have := HN.out; omega) (Nat.zero_le _) ?_
        intro v' W' hown' hg' hloc
        have hO1 : OnlyF (fun k => (Value.slice A n c).ownBlock = some k) w1 W' := (OnlyF.of_below hJ).grown hg' (fun k e _ => e)
        refine ⟨_, rfl, ⟨hown', fun k hk => HRD.out k (hloc.elim (fun h => .inl (by rw [← h]; exact hk)) (fun h => .inr (by rw [h] at hk; cases hk; exact hJ.size)))⟩, trivial, hO1, hO1.blk HCV.out.blk (fun e => own_blk_ne HO.out HCV.out.blk (by decide) e)⟩
      · refine step_upto (by kernel_rfl) 1 [10] (by kernel_rfl) fun k hk a W hJ hf => ?_
        rcases k with _ | k
        · obtain ⟨_, _, hno⟩ := hf.dep 8 (by kernel_rfl)
          exact hno.elim
        rcases k with _ | k
        · obtain ⟨v8, h8, rfl⟩ := hf.get 0 8 (by kernel_rfl) (by kernel_rfl)
          apply op_value
          case ho => rfl
          case hw => exact (wanted_none rfl)
          case hrun => exact run_nilCheck rfl (eval_tmp h8)
          case hS => exact rfl
          case hk => exact keep_refl _
          case hJ => exact hJ
        · omega
      · refine step_upto (by kernel_rfl) 1 [] (by kernel_rfl) fun k hk a W hJ hf => ?_
        rcases k with _ | k
        · obtain ⟨_, _, hno⟩ := hf.dep 9 (by kernel_rfl)
          exact hno.elim
        rcases k with _ | k
        · obtain ⟨v17, h17, rfl⟩ := hf.get 9 17 (by kernel_rfl) (by kernel_rfl)
          apply op_value
          case ho => rfl
          case hw => exact (wanted_none rfl)
          case hrun => exact run_fieldAddr rfl (eval_tmp h17) (V := (.pointer (some ⟨g, 1, none⟩))) (by go_simp)
          case hS => exact rfl
          case hk => exact keep_refl _
          case hJ => exact hJ
        · omega
      · refine step_eff 1 (by kernel_rfl) (by kernel_rfl) (by kernel_rfl) fun a W hJ hf => ?_
        obtain ⟨v18, h18, rfl⟩ := hf.get 10 18 (by kernel_rfl) (by kernel_rfl)
        obtain ⟨v16, h16, o12, d12⟩ := hf.get 8 16 (by kernel_rfl) (by kernel_rfl)
        obtain ⟨A2, c2, rfl, _⟩ := own_slice o12
        have hO2 : OnlyF (fun k => k = g ∨ (Value.slice A n c).ownBlock = some k) w1 (W.setCell ⟨g, 1, none⟩ (.slice A2 (n + 1) c2)) := (hJ.1.mono (fun k h => .inr h)).grown (setCell_grown W g 1 _) (fun k e _ => by cases e; exact .inl rfl)
        refine op_store rfl (wanted_none rfl) (Ph.run_store rfl (eval_tmp h18) (eval_tmp h16) (st41 (hJ.2.cell 1) (hJ.2.frozen 1))) trivial trivial ⟨_, ?_, ?_, d12, hO2⟩
        · have := hJ.2.set_ 1 (.slice A2 (n + 1) c2)
          simpa using this
        · exact ((OnlyF.refl (fun k => k = g) W).grown (setCell_grown W g 1 _) (fun k e _ => by cases e; rfl)).own o12 (fun k hk e => by subst e; exact own_blk_ne o12 hJ.2 (by decide) hk)
    case fin =>
      intro vs w2 hl hJ hSS
      have hl0 : vs.length = 12 := hl
      obtain ⟨y0, r0, rfl, hl1⟩ := cons_of hl0
      obtain ⟨y1, r1, rfl, hl2⟩ := cons_of hl1
      obtain ⟨y2, r2, rfl, hl3⟩ := cons_of hl2
      obtain ⟨y3, r3, rfl, hl4⟩ := cons_of hl3
      obtain ⟨y4, r4, rfl, hl5⟩ := cons_of hl4
      obtain ⟨y5, r5, rfl, hl6⟩ := cons_of hl5
      obtain ⟨y6, r6, rfl, hl7⟩ := cons_of hl6
      obtain ⟨y7, r7, rfl, hl8⟩ := cons_of hl7
      obtain ⟨y8, r8, rfl, hl9⟩ := cons_of hl8
      obtain ⟨y9, r9, rfl, hl10⟩ := cons_of hl9
      obtain ⟨y10, r10, rfl, hl11⟩ := cons_of hl10
      obtain ⟨y11, r11, rfl, hl12⟩ := cons_of hl11
      obtain rfl := nil_of hl12
      simp only [putAll, Act.put, List.setIfInBounds_toArray, List.set_cons_zero, List.set_cons_succ]
      have HJ := Lib.hid hJ
      clear hSS hl hl0 hJ hl1 hl2 hl3 hl4 hl5 hl6 hl7 hl8 hl9 hl10 hl11 hl12
      go_wp2_with fail
      go_end0
      obtain ⟨nv, hb2, ho2, hd2, hO2⟩ := HJ.out
      rw [HKE.out]
      refine ⟨rfl, CTurned.from_below HB1.out (HCV.out.pushed hb2 ?_ hd2 hO2)⟩
      have : w2.ownsRow 0 108 36 nv (ws ++ [e.w]).length ((ws ++ [e.w]).flatMap cellsW) := by
        rw [append_one, List.length_append, ← HN0.out, ← HXS0.out]; exact ho2
      exact this
  · have HCS := Lib.hid (csync_any h1 hl0 hl1 hn hat hep e.A e.c e.tags hts (fun W ho => hr W ((OnlyF.of_below (F := F) hb1).trans ho (fun _ _ h => h))))
    have HKE : Hid (cDo (l, ws) e = (cSafe l ws e.tags, cLeft ws e.tags)) := Lib.hid (by unfold cDo; rw [if_neg (by rw [hk]; decide), if_pos hk])
    have c37 : w1.cell? ⟨w.heap.size, 37, none⟩ = some (.slice e.A e.tags.length e.c) := hk1.list (cellsE_tv e)
    rw [hk] at c0
    clear h h1 hb1 hk1 hl0 hl1 hn hat hep hts hr hk hb3
    go_enter Try.func104, Try.ntmps104
    go_wp2_with (go_at_call 115; refine HCS.out.mono ?_; rintro o w2 ⟨rfl, ht⟩; have HT := Lib.hid ht; clear ht)
    go_end0
    rw [HKE.out]
    exact ⟨rfl, CTurned.from_below HB1.out HT.out⟩
  · have HKE : Hid (cDo (l, ws) e = (l, ws)) := Lib.hid (by unfold cDo; rw [if_neg (by rw [hk]; decide), if_neg (by rw [hk]; decide)])
    have HCV := Lib.hid h1
    rw [hk] at c0
    clear h h1 hb1 hk1 hl0 hl1 hn hat hep hts hr hk hb3
    go_enter Try.func104, Try.ntmps104
    go_wp2_with fail
    go_end0
    rw [HKE.out]
    exact ⟨rfl, F, sv, wv, HCV.out, Wider.refl _ _ _, OnlyF.of_below HB1.out⟩
end Go.Proofs.Ytikhhipgamllgaa
namespace Go.Proofs.Ytikhhipgamllgaa
open Go.RowKit
set_option linter.unusedVariables false
theorem num6_any (n : Int) (w : World) : Calls Try.prog 68 #[.int .i64 n] w fun o w' => o = .returned (.int .i64 n) ∧ w' = w := by
  go_enter Try.func68, Try.ntmps68
  go_wp2
  go_ret
  exact ⟨rfl, rfl⟩
set_option maxRecDepth 100000 in
set_option maxHeartbeats 2000000 in
theorem same6_any (A1 A2 A3 A4 : Option Addr) (c1 c2 c3 c4 : Nat) (l : List Sec) (ws : List Wr) (w : World) (hl : l.length ≤ 1000) (hn : ws.length ≤ 1000) (hr1 : Reads w w.heap.size 32 A1 l.length (l.flatMap cellsS)) (hr2 : Reads w w.heap.size 36 A2 ws.length (ws.flatMap cellsW))
    (hr3 : Reads w w.heap.size 32 A3 l.length (l.flatMap cellsS)) (hr4 : Reads w w.heap.size 36 A4 ws.length (ws.flatMap cellsW)) :
    Calls Try.prog 64 #[.agg #[.slice A1 l.length c1, .slice A2 ws.length c2], .agg #[.slice A3 l.length c3, .slice A4 ws.length c4]] w fun o w' => o = .returned (.bool true) ∧ Below w.heap.size w w' := by
  obtain ⟨w1, hw1⟩ : ∃ w1, (w.alloc (.cells #[.slice A1 l.length c1, .slice A2 ws.length c2] 43)).alloc (.cells #[.slice A3 l.length c3, .slice A4 ws.length c4] 43) = w1 := ⟨_, rfl⟩
  have hb1 : Below w.heap.size w w1 := by rw [← hw1]; exact ((Below.refl _ w).alloc (Nat.le_refl _) _).alloc (by simp) _
  have HU : Hid (∀ W, Below w.heap.size w W → Calls Try.prog 83 #[.slice A1 l.length c1, .slice A3 l.length c3] W fun o w' => o = .returned (.slice none 0 0) ∧ Below W.heap.size W w') := Lib.hid (fun W hb => (unlike_any A1 A3 c1 c3 l W hl ((hr1.below hb).more hb.size) ((hr3.below hb).more hb.size)).mono (fun o w' h => ⟨h.1, by obtain ⟨m, hm⟩ := h.2; rw [hm]; exact below_drewN (Below.refl _ W)⟩))
  have HW : Hid (∀ W, Below w.heap.size w W → Calls Try.prog 57 #[.slice A2 ws.length c2, .slice A4 ws.length c4] W fun o w' => o = .returned (.bool true) ∧ Below W.heap.size W w') := Lib.hid (fun W hb => (writes_same A2 A4 c2 c4 ws W hn ((hr2.below hb).more hb.size) ((hr4.below hb).more hb.size)).mono (fun o w' h => ⟨h.1, by obtain ⟨m, hm⟩ := h.2; rw [hm]; exact below_drewN (Below.refl _ W)⟩))
  obtain ⟨n1, hn1⟩ : ∃ n, n = l.length := ⟨_, rfl⟩
  obtain ⟨n2, hn2⟩ : ∃ n, n = ws.length := ⟨_, rfl⟩
  rw [← hn1, ← hn2] at hw1 ⊢
  rw [← hn1] at HU
  rw [← hn2] at HW
  have ka : Blk w1 w.heap.size 43 #[.slice A1 n1 c1, .slice A2 n2 c2] := by rw [← hw1]; exact (Blk.new w 43 _).alloc _
  have kb : Blk w1 (w.heap.size + 1) 43 #[.slice A3 n1 c3, .slice A4 n2 c4] := by rw [← hw1]; have := Blk.new (w.alloc (.cells #[.slice A1 n1 c1, .slice A2 n2 c2] 43)) 43 #[.slice A3 n1 c3, .slice A4 n2 c4]; simpa using this
  have q0 := ka.cell 0
  have q1 := kb.cell 0
  have HK : Hid (∀ W, Below w1.heap.size w1 W → W.cell? ⟨w.heap.size, 1, none⟩ = some (.slice A2 n2 c2) ∧ W.cell? ⟨w.heap.size + 1, 1, none⟩ = some (.slice A4 n2 c4)) := Lib.hid (fun W hb => ⟨(ka.below hb ka.lt).cell 1, (kb.below hb kb.lt).cell 1⟩)
  have HE : Hid (∀ (a : Int) W, (binOp .eql 3 (.int .i64 a) (.int .i64 a)).run Try.prog W = .ok (.bool true) W) := Lib.hid (fun a W => by rw [eqlI, decide_eq_true rfl])
  have HB1 := Lib.hid hb1
  clear hb1 hl hn hr1 hr2 hr3 hr4 hn1 hn2 ka kb
  go_enter Try.func64, Try.ntmps64
  go_wp2_with (first
    | (with_reducible show wpList _ _ _ (Oper.mk (some 11) _ _ _ _ _ :: _) _ _; go_must (refine wpList_wrun rfl _ (Ph.run_bin (X := .int .i64 (n1 : Nat)) (Y := .int .i64 (n1 : Nat)) rfl rfl rfl rfl (HE.out _ _)) ?_))
    | (go_at_call 83; refine (HU.out _ HB1.out).mono ?_; rintro o w2 ⟨rfl, hb2⟩; obtain ⟨p0, p1⟩ := HK.out w2 hb2; have HB2 := Lib.hid (below_then HB1.out hb2); clear hb2)
    | (go_at_call 57; refine (HW.out _ HB2.out).mono ?_; rintro o w3 ⟨rfl, hb3⟩; have HB3 := Lib.hid (below_then HB2.out hb3); clear hb3))
  go_ret
  exact ⟨rfl, HB3.out⟩
theorem z44 (W : World) : (zeroValue 44).run Try.prog W = .ok (.agg #[.slice none 0 0, .slice none 0 0]) W := by kernel_rfl
theorem mk44 (A : Option Addr) (n c : Nat) (W : World) : (Instr.build 44 #[(0, .slice A n c)]).run Try.prog W = .ok (.agg #[.slice A n c, .slice none 0 0]) W := by kernel_rfl
theorem info44 : (Try.prog.info? 44).map (·.size) = some 2 := by kernel_rfl
theorem one44 (A B : Option Addr) (n c m d : Nat) : ∀ v ∈ [Value.slice A n c, Value.slice B m d], v.oneCell' = true := fun v hv => by
  rcases List.mem_cons.1 hv with rfl | hv
  · rfl
  · cases List.mem_singleton.1 hv; rfl
theorem zE (W : World) : (zeroValue 142).run Try.prog W = .ok (.agg (cellsE ⟨0, zeroWr, [], none, 0⟩).toArray) W := by kernel_rfl
theorem store142 (w : World) (s t : Ev) : (Instr.storeAt 142 (.pointer (some ⟨w.heap.size, 0, none⟩)) (.agg (cellsE s).toArray)).run Try.prog (w.alloc (.cells (cellsE t).toArray 142)) = .ok () (w.alloc (.cells (cellsE s).toArray 142)) :=
  run_storeAt_new (P := Try.prog) w 142 (cellsE t).toArray (cellsE s).toArray (by rw [List.size_toArray, cellsE_len]; exact info142) (by simp [cellsE_len]) (all_oneCell_toArray (cellsE_one s))
theorem sl89 {w : World} {base n c : Nat} {A : Option Addr} {xs : List Value} (h : w.ownsRow base 142 38 (.slice A n c) n xs) (W : World) : (Instr.sliceAt 89 (.slice A n c) none (some (.int .i64 (n : Nat))) none).run Try.prog W = .ok (.slice A n c) W := by
  have hA : (if c = 0 then A else A.map (·.add (0 * 38))) = A := by
    rcases h.2 with ⟨hv, _⟩ | ⟨b, cap, cur, hv, _⟩
    · simp only [Value.slice.injEq] at hv
      rw [hv.1]; simp
    · simp only [Value.slice.injEq] at hv
      rw [hv.1]; split <;> rfl
  have hc : (n : Int) ≤ (c : Int) := by
    rcases h.2 with ⟨hv, h0⟩ | ⟨b, cap, cur, hv, _, _, hnc, _⟩
    · omega
    · simp only [Value.slice.injEq] at hv
      omega
  have e : (Instr.sliceAt 89 (.slice A n c) none (some (.int .i64 (n : Nat))) none).run Try.prog W = .ok (.slice (if c = 0 then A else A.map (·.add (0 * 38))) (n - 0) (c - 0)) W := by go_simp
  rw [e, hA]; rfl
theorem run_slice_hi {P : Program} {o : Oper} {a : Act} {w : World} {t : TypeId} {x hi : Operand} {X I V : Value} (ho : o.op = .slice t x none (some hi) none) (hx : a.eval x = X) (hi' : a.eval hi = I) (h : (Instr.sliceAt t X none (some I) none).run P w = .ok V w) : (execOp a.eval o).run P w = .ok (.value V) w := by
  unfold execOp; simp only [ho, hx, hi', h, Sem.run_bind, Result.andThen_ok, Sem.run_pure, Option.map_some, Option.map_none]
def GotAt (w : World) (s : List Sec × List Wr) (o : Ending) (w' : World) : Prop := ∃ A1 c1 A2 c2, o = .returned (.tuple #[.agg #[.slice A1 s.1.length c1, .slice A2 s.2.length c2], .bool true]) ∧ Reads w' w'.heap.size 32 A1 s.1.length (s.1.flatMap cellsS) ∧ Reads w' w'.heap.size 36 A2 s.2.length (s.2.flatMap cellsW) ∧ Below w.heap.size w w'
/-- between two events -/
def AtJ (w1 : World) (g : Nat) (s : List Sec × List Wr) (wr : World) : Prop := ∃ F sv wv, CV wr F g s.1 s.2 sv wv ∧ (∀ q, F q → w1.heap.size ≤ q) ∧ Below w1.heap.size w1 wr
theorem AtJ.grow {w1 wr wr' : World} {g : Nat} {s : List Sec × List Wr} (h : AtJ w1 g s wr) (hb : Below wr.heap.size wr wr') : AtJ w1 g s wr' := by
  obtain ⟨F, sv, wv, hc, hF, hB⟩ := h
  exact ⟨F, sv, wv, hc.below hb, hF, below_then hB hb⟩
theorem AtJ.below {w1 wr : World} {g : Nat} {s : List Sec × List Wr} (h : AtJ w1 g s wr) : Below w1.heap.size w1 wr := by obtain ⟨_, _, _, _, _, hB⟩ := h; exact hB
theorem AtJ.do_ {w1 wr : World} {g q k : Nat} {s : List Sec × List Wr} (h : AtJ w1 g s wr) (hs : COk q k s) (hq0 : 0 < q) (hq : q ≤ 1000) (hk : k ≤ 1000) (e : Ev) (he : okE q e) (hts : e.tags.length ≤ 1000) (hr : Reads w1 w1.heap.size 2 e.A e.tags.length (e.tags.flatMap cellsT)) :
    Calls Try.prog 104 #[.pointer (some ⟨g, 0, none⟩), .agg (cellsE e).toArray] wr fun o w' => o = .returned (.tuple #[]) ∧ AtJ w1 g (cDo s e) w' := by
  obtain ⟨F, sv, wv, hc, hF, hB⟩ := h
  refine (do_any hc (by rw [hs.len]; exact hq0) (by rw [hs.len]; exact hq) (Nat.le_trans hs.wl hk) (fun x hx => by rw [hs.len]; exact hs.at_ x hx) hs.ep e (by rw [hs.len]; exact he) hts (fun W ho => ?_)).mono ?_
  · have hb2 := hB.trans (ho.below hB.size hF)
    exact (hr.below hb2).more hb2.size
  · rintro o w' ⟨rfl, F', a, b, hc', hw, ho⟩
    exact ⟨rfl, F', a, b, hc', hw.base hB.size hF, hB.trans (ho.below hB.size hF)⟩
set_option maxRecDepth 100000 in
set_option maxHeartbeats 8000000 in
theorem at_any (AI : Option Addr) (cI : Nat) (img : List Sec) (A : Option Addr) (c base : Nat) (es : List Ev) (w : World) (hi0 : 0 < img.length) (hi1 : img.length ≤ 65) (hn : es.length ≤ 1000) (hri : Reads w w.heap.size 32 AI img.length (img.flatMap cellsS)) (hlog : w.ownsRow base 142 38 (.slice A es.length c) es.length (es.flatMap cellsE))
    (htg : ∀ e ∈ es, e.tags.length ≤ 1000 ∧ Reads w w.heap.size 2 e.A e.tags.length (e.tags.flatMap cellsT)) (hok : ∀ e ∈ es, okE img.length e ∧ 0 ≤ e.w.ep) :
    Calls Try.prog 62 #[.slice AI img.length cI, .slice A es.length c, .int .i64 (es.length : Nat)] w (GotAt w (cRun img es)) := by
  obtain ⟨w1, hw1⟩ : ∃ w1, (w.alloc (.cells #[.slice AI img.length cI] 40)).alloc (.cells #[.slice none 0 0, .slice none 0 0] 44) = w1 := ⟨_, rfl⟩
  have hb1 : Below w.heap.size w w1 := by rw [← hw1]; exact ((Below.refl _ w).alloc (Nat.le_refl _) _).alloc (by simp) _
  have hk3 : Blk w1 w.heap.size 40 #[.slice AI img.length cI] := by rw [← hw1]; exact (Blk.new w 40 _).alloc _
  have hk6 : Blk w1 (w.heap.size + 1) 44 #[.slice none 0 0, .slice none 0 0] := by rw [← hw1]; have := Blk.new (w.alloc (.cells #[.slice AI img.length cI] 40)) 44 #[.slice none 0 0, .slice none 0 0]; simpa using this
  have hs1 : w1.heap.size = w.heap.size + 1 + 1 := by rw [← hw1]; simp
  have hri1 := (hri.below hb1).more hb1.size
  have hlog1 := own_below hlog hb1
  have htg1 : ∀ e ∈ es, e.tags.length ≤ 1000 ∧ Reads w1 w1.heap.size 2 e.A e.tags.length (e.tags.flatMap cellsT) := fun e he => ⟨(htg e he).1, ((htg e he).2.below hb1).more hb1.size⟩
  have HSL := Lib.hid (fun W => sl89 hlog W)
  obtain ⟨q, hq⟩ : ∃ q, q = img.length := ⟨_, rfl⟩
  obtain ⟨n, hnn⟩ : ∃ n, n = es.length := ⟨_, rfl⟩
  have HQ := Lib.hid hq
  have HN := Lib.hid hnn
  have HCF : Hid (∀ W, Below w1.heap.size w1 W → Calls Try.prog 51 #[.slice AI q cI] W (GotDisk W (Dk.of img))) := Lib.hid (fun W hb => by rw [hq]; exact bfrom_any AI cI img hi0 hi1 W ((hri1.below hb).more hb.size))
  have HCC : Hid (∀ W, Below w1.heap.size w1 W → Calls Try.prog 80 #[.slice AI q cI] W (GotRow W 66 32 q (img.flatMap cellsS))) := Lib.hid (fun W hb => by rw [hq]; exact clone_secs AI cI img W (by omega) ((hri1.below hb).more hb.size))
  have HCE : Hid (∀ W, Below w1.heap.size w1 W → Calls Try.prog 101 #[.slice A n c, .func (.func 102) #[] #[.pointer (some ⟨w.heap.size, 0, none⟩)]] W fun o w' => o = .returned (.bool false) ∧ Below W.heap.size W w') := Lib.hid (fun W hb => by
    rw [hnn]
    refine contains_ev A c es 102 (.pointer (some ⟨w.heap.size, 0, none⟩)) W hn (((Reads.of_own hlog1).below hb).more hb.size) (fun e he W2 hb2 => ?_) (fun a W => by kernel_rfl)
    have hk3' := (hk3.below hb hk3.lt).below hb2 (Nat.lt_of_lt_of_le hk3.lt hb.size)
    exact at1_any e img.length cI w.heap.size AI (hok e he).1 W2 hk3'.lt (hk3'.cell 0))
  have HC3 : Hid (∀ W, Below w1.heap.size w1 W → W.cell? ⟨w.heap.size, 0, none⟩ = some (.slice AI q cI)) := Lib.hid (fun W hb => by rw [hq]; exact (hk3.below hb hk3.lt).cell 0)
  have HK6 : Hid (∀ W, Below w1.heap.size w1 W → Blk W (w.heap.size + 1) 44 #[.slice none 0 0, .slice none 0 0]) := Lib.hid (fun W hb => hk6.below hb hk6.lt)
  have HB1 := Lib.hid hb1
  have HS1 := Lib.hid hs1
  have HLG : Hid (Reads w1 w1.heap.size 38 A es.length (es.flatMap cellsE)) := Lib.hid (Reads.of_own hlog1)
  have HTG := Lib.hid htg1
  have HOK : Hid (∀ e ∈ es, okE q e ∧ 0 ≤ e.w.ep) := Lib.hid (by rw [hq]; exact hok)
  have HCO : Hid (∀ k, k ≤ n → COk q k (cRun img (es.take k))) := Lib.hid (fun k hk => by rw [hq]; exact cRun_ok hok k (by omega))
  have HQ0 : Hid (0 < q ∧ q ≤ 65) := Lib.hid (by omega)
  have HNL : Hid (n ≤ 1000) := Lib.hid (by omega)
  have c3 := HC3.out w1 (Below.refl _ _)
  have e0 : decide ((n : Int) < 0) = false := by simp
  have e1 : decide ((n : Int) > (n : Int)) = false := by simp
  have e1' : decide ((n : Int) < (n : Int)) = false := by simp
  have HNE : Hid (∀ W, (binOp .neq 61 (.int .i64 0) (.int .i64 0)).run Try.prog W = .ok (.bool false) W) := Lib.hid (fun W => by kernel_rfl)
  rw [← hq] at hw1
  rw [← hnn] at HSL
  rw [← hq, ← hnn]
  clear hi0 hi1 hn hri hlog htg hok hb1 hk3 hk6 hs1 hri1 hlog1 htg1 hq hnn
  go_enter Try.func62, Try.ntmps62
  go_wp2_with (first
    | (with_reducible show wpList _ _ _ (Oper.mk (some 6) (Op.alloc 44) _ _ _ _ :: _) _ _; go_must (refine wpList_wrun (w' := (w.alloc (.cells #[.slice AI q cI] 40)).alloc (.cells #[.slice none 0 0, .slice none 0 0] 44)) rfl (.pointer (some ⟨(w.alloc (.cells #[.slice AI q cI] 40)).heap.size, 0, none⟩)) (Ph.run_alloc (z := .agg #[.slice none 0 0, .slice none 0 0]) rfl (z44 _)) ?_; rw [hw1]; simp only [World.size_alloc]))
    | (go_at_call 51; refine (HCF.out _ (Below.refl _ _)).mono ?_; rintro o w2 ⟨g0, F0, rfl, _, _, hb2⟩; have c32 := HC3.out w2 hb2; have HB2 := Lib.hid hb2; clear hb2)
    | (with_reducible show wpList _ _ _ (Oper.mk (some 19) _ _ _ _ _ :: _) _ _; go_must (refine wpList_wrun rfl _ (Ph.run_bin (X := .int .i64 0) (Y := .int .i64 0) rfl rfl rfl rfl (HNE.out _)) ?_))
    | (go_at_call 101; refine (HCE.out _ HB2.out).mono ?_; rintro o w3 ⟨rfl, hb3⟩; have hb3' := below_then HB2.out hb3; have c33 := HC3.out w3 hb3'; have HB3 := Lib.hid hb3'; clear hb3 hb3')
    | (go_at_call 80; refine (HCC.out _ HB3.out).mono ?_; rintro o w4 ⟨v4, rfl, ho4, hb4⟩; obtain ⟨A4, c4, rfl, _⟩ := own_slice ho4; have HO4 := Lib.hid ho4; have HSZ3 := Lib.hid HB3.out.size; have HB4 := Lib.hid (below_then HB3.out hb4); clear ho4 hb4; obtain ⟨g, hg⟩ : ∃ g, g = w4.heap.size := ⟨_, rfl⟩; obtain ⟨w5, hst5, hk5, hg5, hs5⟩ := stBlk (ty := 44) (new := [.slice A4 q c4, .slice none 0 0]) (Blk.new w4 44 #[.slice none 0 0, .slice none 0 0]) rfl info44 (one44 _ _ _ _ _ _); rw [← hg] at hst5 hk5 hg5; have HG := Lib.hid hg; have HST5 := Lib.hid hst5; have HK5 := Lib.hid hk5; have HG5 := Lib.hid hg5; clear hst5 hk5 hg5 hs5 hg)
    | (with_reducible show wpList _ _ _ (Oper.mk (some 38) _ _ _ _ _ :: _) _ _; go_must (refine wpList_wrun rfl _ (run_build1 (X := .slice A4 q c4) rfl rfl (mk44 A4 q c4 _)) ?_))
    | (with_reducible show wpList _ _ _ (Oper.mk (some 10) (Op.alloc 44) _ _ _ _ :: _) _ _; go_must (refine wpList_wrun (w' := w4.alloc (.cells #[.slice none 0 0, .slice none 0 0] 44)) rfl (.pointer (some ⟨w4.heap.size, 0, none⟩)) (Ph.run_alloc (z := .agg #[.slice none 0 0, .slice none 0 0]) rfl (z44 _)) ?_; rw [← HG.out]))
    | (with_reducible show wpList _ _ _ (Oper.mk none (Op.store 44 _ _) _ _ _ _ :: _) _ _; go_must (refine wpList_done rfl w5 (Ph.run_store (X := .pointer (some ⟨g, 0, none⟩)) (Y := .agg #[.slice A4 q c4, .slice none 0 0]) rfl rfl rfl HST5.out) ?_))
    | (with_reducible show wpList _ _ _ (Oper.mk (some 41) _ _ _ _ _ :: _) _ _; go_must (refine wpList_wrun rfl _ (run_slice_hi (X := .slice A n c) (I := .int .i64 (n : Nat)) rfl rfl rfl (HSL.out _)) ?_)))
  have HJ5 : Hid (AtJ w1 g (cRun img (es.take 0)) w5) := Lib.hid (by
    have hb5 : Below w4.heap.size w4 w5 := ((Below.refl _ w4).alloc (Nat.le_refl _) _).grown HG5.out (by simp) (fun k e => by cases e; rw [HG.out]; exact Nat.le_refl _)
    have ho5 := own_below HO4.out hb5
    refine ⟨fun k => k = g ∨ (Value.slice A4 q c4).ownBlock = some k, _, _, ⟨HK5.out, .inl rfl, fun k hk => ?_, ⟨?_, fun k hk => .inr hk⟩, RowF.nil _ _ _ _⟩, fun k hk => ?_, below_then HB4.out hb5⟩
    · rcases hk with rfl | hk
      · exact HK5.out.lt
      · exact (ho5.lt k hk).2
    · rw [List.take_zero]
      show w5.ownsRow 0 66 32 _ img.length (img.flatMap cellsS)
      rw [← HQ.out]; exact own_base ho5 (Nat.zero_le _)
    · rcases hk with rfl | hk
      · rw [HG.out]; exact HB4.out.size
      · exact Nat.le_trans HSZ3.out (ho5.lt k hk).1)
  clear c3 c32 c33 HCF HCC HCE HO4 HB4 HST5 HK5 HG5 HG HSL e0 e1 e1' hw1 HB2 HB3 HSZ3
  go_loopw [43] (fun i wr => ∃ k : Nat, k ≤ n ∧ i = .int .i64 k ∧ Hid (AtJ w1 g (cRun img (es.take k)) wr)) (fun i _ => n - (intOf i).toNat)
  case atStart => exact ⟨0, by omega, rfl, HJ5⟩
  case round =>
    clear HJ5
    obtain ⟨k, hk, rfl, HJ⟩ := hrel
    by_cases hlt : k < n
    · obtain ⟨e, he⟩ : ∃ e, es[k]? = some e := ⟨_, List.getElem?_eq_getElem (by rw [← HN.out]; exact hlt)⟩
      obtain ⟨bb, o, rfl, hbb, hit⟩ := HLG.out.item (f := cellsE) cellsE_len (by omega) (k := k) (by rw [← HN.out]; exact hlt)
      have HIT := Lib.hid (rangeAt_below (hit k e he) HJ.out.below hbb)
      obtain ⟨w6, hw6⟩ : ∃ w6, wr.alloc (.cells (cellsE e).toArray 142) = w6 := ⟨_, rfl⟩
      have hb6 : Below wr.heap.size wr w6 := by rw [← hw6]; exact (Below.refl _ wr).alloc (Nat.le_refl _) _
      have hk6 : Blk w6 wr.heap.size 142 (cellsE e).toArray := by rw [← hw6]; exact Blk.new wr 142 _
      have hst := store142 wr e ⟨0, zeroWr, [], none, 0⟩
      rw [hw6] at hst
      have hmem := List.mem_of_getElem? he
      have HST := Lib.hid hst
      have HX6 := Lib.hid (range0 hk6)
      have HDO := Lib.hid ((HJ.out.grow hb6).do_ (HCO.out k hk) HQ0.out.1 (by have := HQ0.out; omega) (by have := HNL.out; omega) e (HOK.out e hmem).1 (HTG.out e hmem).1 (HTG.out e hmem).2)
      have HRS : Hid (cRun img (es.take (k + 1)) = cDo (cRun img (es.take k)) e) := Lib.hid (cRun_succ he)
      have hl1 : (k : Int) < (n : Int) := by omega
      have hn5 := HNL.out
      clear he hbb hit hw6 hb6 hk6 hst hmem
      go_wp2_with (first
        | (with_reducible show wpList _ _ _ (Oper.mk (some 46) (Op.load 142 _) _ _ _ _ :: _) _ _; go_must (refine wpList_load_mid rfl 142 (.tmp 45) rfl bb _ rfl (cellsE e) _ HIT.out Try.underlying142 rfl (by rw [cellsE_len]; exact info142) ?_))
        | (with_reducible show wpList _ _ _ (Oper.mk _ (Op.alloc 142) _ _ _ _ :: _) _ _; go_must (refine wpList_run rfl (.pointer (some ⟨wr.heap.size, 0, none⟩)) (wr.alloc (.cells (cellsE ⟨0, zeroWr, [], none, 0⟩).toArray 142)) (Ph.run_alloc (z := .agg (cellsE ⟨0, zeroWr, [], none, 0⟩).toArray) rfl (zE wr)) ?_))
        | (with_reducible show wpList _ _ _ (Oper.mk none (Op.store 142 _ _) _ _ _ _ :: _) _ _; go_must (refine wpList_done rfl w6 (Ph.run_store (X := .pointer (some ⟨wr.heap.size, 0, none⟩)) (Y := .agg (cellsE e).toArray) rfl rfl rfl HST.out) ?_))
        | (with_reducible show wpList _ _ _ (Oper.mk (some 47) (Op.load 142 _) _ _ _ _ :: _) _ _; go_must (refine wpList_load_mid rfl 142 (.tmp 12) rfl wr.heap.size 0 rfl (cellsE e) _ HX6.out Try.underlying142 rfl (by rw [cellsE_len]; exact info142) ?_))
        | (go_at_call 104; refine HDO.out.mono ?_; rintro o w7 ⟨rfl, hj⟩; have HJ7 := Lib.hid hj; clear hj))
      exact ⟨⟨k + 1, by omega, by go_num, Lib.hid (by rw [HRS.out]; exact HJ7.out)⟩, by simp [intOf]; omega⟩
    · obtain rfl : k = n := by omega
      have hj := HJ.out
      rw [List.take_of_length_le (by rw [← HN.out]; exact Nat.le_refl _)] at hj
      have hB := hj.below
      obtain ⟨F, sv, wv, hc, hF, _⟩ := hj
      obtain ⟨A1, c1, rfl, hr1⟩ := own_slice hc.safe.1
      obtain ⟨A2, c2, rfl, hr2⟩ := own_slice hc.wait.1
      have hk6 := HK6.out wr hB
      obtain ⟨s, hs⟩ : ∃ s, s = cRun img es := ⟨_, rfl⟩
      rw [← hs] at hc hr1 hr2
      obtain ⟨w9, hst9, hk9, hg9, hs9⟩ := stBlk (ty := 44) (new := [.slice A1 s.1.length c1, .slice A2 s.2.length c2]) hk6 rfl info44 (one44 _ _ _ _ _ _)
      have HRG : Hid (wr.rangeAt g 0 [.slice A1 s.1.length c1, .slice A2 s.2.length c2]) := Lib.hid (range0 hc.blk)
      have HIN : Hid ((Try.prog.info? 44).map (·.size) = some [Value.slice A1 s.1.length c1, Value.slice A2 s.2.length c2].length) := Lib.hid info44
      have HST9 := Lib.hid hst9
      have HK9 := Lib.hid hk9
      have hB9 : Below w.heap.size w w9 := (HB1.out.trans (hB.mono HB1.out.size)).grown hg9 (Nat.le_trans HB1.out.size hB.size) (fun k e => by cases e; omega)
      have hO9 : OnlyF (fun k => k = w.heap.size + 1) wr w9 := (OnlyF.refl _ wr).grown hg9 (fun k e _ => by cases e; rfl)
      have HRR : Hid (Reads w9 w9.heap.size 32 A1 s.1.length (s.1.flatMap cellsS) ∧ Reads w9 w9.heap.size 36 A2 s.2.length (s.2.flatMap cellsW)) := Lib.hid ⟨Reads.of_own (hO9.own hc.safe.1 (fun k hk e => by have h1 := hF k (hc.safe.2 k hk); have h2 := HS1.out; omega)), Reads.of_own (hO9.own hc.wait.1 (fun k hk e => by have h1 := hF k (hc.wait.2 k hk); have h2 := HS1.out; omega))⟩
      have HB9 := Lib.hid hB9
      have HSE := Lib.hid hs
      clear hB hc hF hr1 hr2 hk6 hst9 hk9 hg9 hs9 hB9 hO9 hs
      go_wp2_with (first
        | (with_reducible show wpList _ _ _ (Oper.mk (some 50) (Op.load 44 _) _ _ _ _ :: _) _ _; go_must (refine wpList_load_mid rfl 44 (.tmp 10) rfl g 0 rfl [.slice A1 s.1.length c1, .slice A2 s.2.length c2] _ HRG.out Try.underlying44 rfl HIN.out ?_))
        | (with_reducible show wpList _ _ _ (Oper.mk none (Op.store 44 _ _) _ _ _ _ :: _) _ _; go_must (refine wpList_done rfl w9 (Ph.run_store (X := .pointer (some ⟨w.heap.size + 1, 0, none⟩)) (Y := .agg #[.slice A1 s.1.length c1, .slice A2 s.2.length c2]) rfl rfl rfl HST9.out) ?_)))
      (try simp only [Exit.inBlock, Exit.then])
      have fin : GotAt w (cRun img es) (.returned (.tuple #[.agg #[.slice A1 s.1.length c1, .slice A2 s.2.length c2], .bool true])) w9 := by
        rw [← HSE.out]
        exact ⟨A1, c1, A2, c2, rfl, HRR.out.1, HRR.out.2, HB9.out⟩
      exact bodyPost_ret (results_ct (P := Try.prog) rfl _ _ (w.heap.size + 1) 44 _ _ (.bool true) rfl rfl HK9.out Try.underlying44 rfl info44) rfl fin
end Go.Proofs.Ytikhhipgamllgaa
