/- Searches in lists of events, writes, tags; the closures of crash.At and of its State's sync. Conditions: in each theorem. -/
import Derived.Test.YtikhhipgamllgaaSynced
namespace Go.Proofs.Ytikhhipgamllgaa
open Go.RowKit
/-- a function value with two captured ones that answers p of a write, in every world behind w -/
def AnswersW2 (w : World) (f : Nat) (v u : Value) (p : Wr → Bool) : Prop := ∀ (x : Wr) (W : World), Below w.heap.size w W → Calls Try.prog f #[.agg (cellsW x).toArray, v, u] W fun e W' => e = .returned (.bool (p x)) ∧ Below W.heap.size W W'
theorem AnswersW2.ask {w : World} {f : Nat} {v u : Value} {p : Wr → Bool} (h : AnswersW2 w f v u p) (x : Wr) (W : World) (hb : Below w.heap.size w W) : Calls Try.prog f #[.agg (cellsW x).toArray, v, u] W fun e W' => e = .returned (.bool (p x)) ∧ Below W.heap.size W W' := h x W hb
set_option maxRecDepth 100000 in
set_option maxHeartbeats 1000000 in
theorem index_func2 (A : Option Addr) (cap : Nat) (ws : List Wr) (f : Nat) (v u : Value) (p : Wr → Bool) (w : World) (hn : ws.length ≤ 1000) (hr : Reads w w.heap.size 36 A ws.length (ws.flatMap cellsW)) (hp : AnswersW2 w f v u p) (hcf : ∀ (a : Value) (W : World), (callFunc f #[a, v, u]).run Try.prog W = .ok (.enter f #[a, v, u]) W) :
    Calls Try.prog 108 #[.slice A ws.length cap, .func (.func f) #[] #[v, u]] w fun o w' => o = .returned (.int .i64 (IdxW ws p)) ∧ Below w.heap.size w w' := by
  obtain ⟨n, hnn⟩ : ∃ n, n = ws.length := ⟨_, rfl⟩
  rw [← hnn] at hn ⊢
  have HN := Lib.hid hnn
  have HR := Lib.hid hr
  have HP := Lib.hid hp
  clear hr hnn hp
  go_enter Try.func108, Try.ntmps108
  go_wp2
  go_loopw [8] (fun i wr => ∃ k : Nat, k ≤ n ∧ i = .int .i64 k ∧ Hid (NotYet ws p k) ∧ Below w.heap.size w wr) (fun i _ => n - (intOf i).toNat)
  case atStart => exact ⟨0, by omega, rfl, Lib.hid (fun j y hj => absurd hj (by omega)), Below.refl _ _⟩
  case round =>
    obtain ⟨k, hk, rfl, HQ, hbel⟩ := hrel
    have HB := Lib.hid hbel
    clear hbel
    by_cases hlt : k < n
    · obtain ⟨x, hx⟩ : ∃ x, ws[k]? = some x := ⟨_, List.getElem?_eq_getElem (by rw [← HN.out]; exact hlt)⟩
      obtain ⟨b, o, rfl, hb, hit⟩ := (HR.out.below HB.out).item (f := cellsW) cellsW_len (by omega) (k := k) (by rw [← HN.out]; exact hlt)
      have HIT := Lib.hid (hit k x hx)
      have HX := Lib.hid hx
      clear hit hx
      cases hpx : p x
      · have HPX := Lib.hid hpx
        clear hpx
        go_wp2_with (first | (with_reducible show wpList _ _ _ (Oper.mk _ (Op.load 108 _) _ _ _ _ :: _) _ _; go_must (refine wpList_load_mid rfl 108 (.tmp 14) rfl b _ rfl (cellsW x) _ HIT.out Try.underlying108 rfl (by rw [cellsW_len]; exact info108) ?_)) | (with_reducible show Calls _ _ _ _ _; go_must (refine (HP.out.ask x wr HB.out).mono ?_; rw [HPX.out]; rintro e w1 ⟨rfl, hb1⟩)))
        exact ⟨⟨k + 1, by omega, by go_num, Lib.hid (HQ.out.succ HX.out HPX.out), HB.out.trans (hb1.mono HB.out.size)⟩, by simp [intOf]; omega⟩
      · have HPX := Lib.hid hpx
        clear hpx
        go_wp2_with (first | (with_reducible show wpList _ _ _ (Oper.mk _ (Op.load 108 _) _ _ _ _ :: _) _ _; go_must (refine wpList_load_mid rfl 108 (.tmp 14) rfl b _ rfl (cellsW x) _ HIT.out Try.underlying108 rfl (by rw [cellsW_len]; exact info108) ?_)) | (with_reducible show Calls _ _ _ _ _; go_must (refine (HP.out.ask x wr HB.out).mono ?_; rw [HPX.out]; rintro e w1 ⟨rfl, hb1⟩)))
        go_ret
        exact ⟨by rw [IdxW_some HX.out HPX.out HQ.out]; rfl, HB.out.trans (hb1.mono HB.out.size)⟩
    · obtain rfl : k = n := by omega
      go_wp2
      go_ret
      exact ⟨by rw [IdxW_none (fun j y hy => HQ.out j y (by rw [HN.out]; exact (List.getElem?_eq_some_iff.1 hy).1) hy)]; rfl, HB.out⟩
set_option maxHeartbeats 1000000 in
theorem contains_func2 (A : Option Addr) (cap : Nat) (ws : List Wr) (f : Nat) (v u : Value) (p : Wr → Bool) (w : World) (hn : ws.length ≤ 1000) (hr : Reads w w.heap.size 36 A ws.length (ws.flatMap cellsW)) (hp : AnswersW2 w f v u p) (hcf : ∀ (a : Value) (W : World), (callFunc f #[a, v, u]).run Try.prog W = .ok (.enter f #[a, v, u]) W) :
    Calls Try.prog 79 #[.slice A ws.length cap, .func (.func f) #[] #[v, u]] w fun o w' => o = .returned (.bool (ws.any p)) ∧ Below w.heap.size w w' := by
  have HR := Lib.hid hr
  have HP := Lib.hid hp
  have HF := Lib.hid hcf
  have HA := Lib.hid (IdxW_any ws p)
  clear hr hp hcf
  go_enter Try.func79, Try.ntmps79
  go_wp2_with (go_at_call 108; refine (index_func2 A cap ws f v u p _ hn HR.out HP.out HF.out).mono ?_; rintro o w' ⟨rfl, hb⟩)
  go_ret
  exact ⟨by rw [← HA.out]; rfl, hb⟩
/-! ### events: none is odd -/
def NoneE (w : World) (f : Nat) (v : Value) (es : List Ev) : Prop := ∀ e ∈ es, ∀ (W : World), Below w.heap.size w W → Calls Try.prog f #[.agg (cellsE e).toArray, v] W fun o W' => o = .returned (.bool false) ∧ Below W.heap.size W W'
theorem NoneE.ask {w : World} {f : Nat} {v : Value} {es : List Ev} (h : NoneE w f v es) {e : Ev} (he : e ∈ es) (W : World) (hb : Below w.heap.size w W) : Calls Try.prog f #[.agg (cellsE e).toArray, v] W fun o W' => o = .returned (.bool false) ∧ Below W.heap.size W W' := h e he W hb
set_option maxRecDepth 100000 in
set_option maxHeartbeats 1000000 in
theorem index_ev (A : Option Addr) (cap : Nat) (es : List Ev) (f : Nat) (v : Value) (w : World) (hn : es.length ≤ 1000) (hr : Reads w w.heap.size 38 A es.length (es.flatMap cellsE)) (hp : NoneE w f v es) (hcf : ∀ (a : Value) (W : World), (callFunc f #[a, v]).run Try.prog W = .ok (.enter f #[a, v]) W) :
    Calls Try.prog 114 #[.slice A es.length cap, .func (.func f) #[] #[v]] w fun o w' => o = .returned (.int .i64 (-1)) ∧ Below w.heap.size w w' := by
  obtain ⟨n, hnn⟩ : ∃ n, n = es.length := ⟨_, rfl⟩
  rw [← hnn] at hn ⊢
  have HN := Lib.hid hnn
  have HR := Lib.hid hr
  have HP := Lib.hid hp
  clear hr hnn hp
  go_enter Try.func114, Try.ntmps114
  go_wp2
  go_loopw [8] (fun i wr => ∃ k : Nat, k ≤ n ∧ i = .int .i64 k ∧ Below w.heap.size w wr) (fun i _ => n - (intOf i).toNat)
  case atStart => exact ⟨0, by omega, rfl, Below.refl _ _⟩
  case round =>
    obtain ⟨k, hk, rfl, hbel⟩ := hrel
    have HB := Lib.hid hbel
    clear hbel
    by_cases hlt : k < n
    · obtain ⟨x, hx⟩ : ∃ x, es[k]? = some x := ⟨_, List.getElem?_eq_getElem (by rw [← HN.out]; exact hlt)⟩
      obtain ⟨b, o, rfl, hb, hit⟩ := (HR.out.below HB.out).item (f := cellsE) cellsE_len (by omega) (k := k) (by rw [← HN.out]; exact hlt)
      have HIT := Lib.hid (hit k x hx)
      have HX := Lib.hid (List.mem_of_getElem? hx)
      clear hit hx
      go_wp2_with (first | (with_reducible show wpList _ _ _ (Oper.mk _ (Op.load 142 _) _ _ _ _ :: _) _ _; go_must (refine wpList_load_mid rfl 142 (.tmp 14) rfl b _ rfl (cellsE x) _ HIT.out Try.underlying142 rfl (by rw [cellsE_len]; exact info142) ?_)) | (with_reducible show Calls _ _ _ _ _; go_must (refine (HP.out.ask HX.out wr HB.out).mono ?_; rintro e w1 ⟨rfl, hb1⟩)))
      exact ⟨⟨k + 1, by omega, by go_num, HB.out.trans (hb1.mono HB.out.size)⟩, by simp [intOf]; omega⟩
    · obtain rfl : k = n := by omega
      go_wp2
      go_ret
      exact ⟨rfl, HB.out⟩
set_option maxHeartbeats 1000000 in
theorem contains_ev (A : Option Addr) (cap : Nat) (es : List Ev) (f : Nat) (v : Value) (w : World) (hn : es.length ≤ 1000) (hr : Reads w w.heap.size 38 A es.length (es.flatMap cellsE)) (hp : NoneE w f v es) (hcf : ∀ (a : Value) (W : World), (callFunc f #[a, v]).run Try.prog W = .ok (.enter f #[a, v]) W) :
    Calls Try.prog 101 #[.slice A es.length cap, .func (.func f) #[] #[v]] w fun o w' => o = .returned (.bool false) ∧ Below w.heap.size w w' := by
  have HR := Lib.hid hr
  have HP := Lib.hid hp
  have HF := Lib.hid hcf
  clear hr hp hcf
  go_enter Try.func101, Try.ntmps101
  go_wp2_with (go_at_call 114; refine (index_ev A cap es f v _ hn HR.out HP.out HF.out).mono ?_; rintro o w' ⟨rfl, hb⟩)
  go_ret
  exact ⟨rfl, hb⟩
/-- an event that may be, of so many sectors -/
def okE (n : Nat) (e : Ev) : Prop := (e.kind = 1 ∧ atIn e.w.at_ n = true) ∨ e.kind = 2 ∨ e.kind = 3
theorem cellsE_kind (e : Ev) : (cellsE e)[0]? = some (.int .i64 e.kind) := rfl
theorem cellsE_wat (e : Ev) : (cellsE e)[1]? = some (.int .i64 e.w.at_) := rfl
set_option maxRecDepth 100000 in
set_option maxHeartbeats 1000000 in
theorem odd_any (e : Ev) (n : Nat) (h : okE n e) (W : World) : Calls Try.prog 103 #[.agg (cellsE e).toArray, .int .i64 (n : Nat)] W fun o W' => o = .returned (.bool false) ∧ Below W.heap.size W W' := by
  have h0 := cellsE_kind e
  have h1 := cellsE_wat e
  rcases h with ⟨hk, hw⟩ | hk | hk
  · rw [hk] at h0
    have hw2 : 0 ≤ e.w.at_ ∧ e.w.at_ < n := by simpa [atIn] using hw
    have e1 : decide (e.w.at_ < 0) = false := by simp; omega
    have e2 : decide (e.w.at_ ≥ (n : Int)) = false := by simp; omega
    have e2' : decide ((n : Int) ≤ e.w.at_) = false := e2
    obtain ⟨cs, hcs⟩ : ∃ cs, cs = cellsE e := ⟨_, rfl⟩
    obtain ⟨at_, hat⟩ : ∃ x, x = e.w.at_ := ⟨_, rfl⟩
    rw [← hcs] at h0 h1 ⊢
    rw [← hat] at h1 e1 e2 e2'
    clear hw hw2 hk hcs hat
    go_enter Try.func103, Try.ntmps103
    go_wp2
    go_ret
    exact ⟨rfl, (Below.refl _ W).alloc (Nat.le_refl _) _⟩
  · rw [hk] at h0
    obtain ⟨cs, hcs⟩ : ∃ cs, cs = cellsE e := ⟨_, rfl⟩
    rw [← hcs] at h0 ⊢
    clear h1 hk hcs
    go_enter Try.func103, Try.ntmps103
    go_wp2
    go_ret
    exact ⟨rfl, (Below.refl _ W).alloc (Nat.le_refl _) _⟩
  · rw [hk] at h0
    obtain ⟨cs, hcs⟩ : ∃ cs, cs = cellsE e := ⟨_, rfl⟩
    rw [← hcs] at h0 ⊢
    clear h1 hk hcs
    go_enter Try.func103, Try.ntmps103
    go_wp2
    go_ret
    exact ⟨rfl, (Below.refl _ W).alloc (Nat.le_refl _) _⟩
set_option maxRecDepth 100000 in
set_option maxHeartbeats 1000000 in
theorem at1_any (e : Ev) (n c g : Nat) (A : Option Addr) (h : okE n e) (W : World) (hg : g < W.heap.size) (hc : W.cell? ⟨g, 0, none⟩ = some (.slice A n c)) : Calls Try.prog 102 #[.agg (cellsE e).toArray, .pointer (some ⟨g, 0, none⟩)] W fun o W' => o = .returned (.bool false) ∧ Below W.heap.size W W' := by
  obtain ⟨w1, hw1⟩ : ∃ w1, W.alloc (.cells (cellsE e).toArray 142) = w1 := ⟨_, rfl⟩
  have hb1 : Below W.heap.size W w1 := by rw [← hw1]; exact (Below.refl _ W).alloc (Nat.le_refl _) _
  have hk1 : Blk w1 W.heap.size 142 (cellsE e).toArray := by rw [← hw1]; exact Blk.new W 142 _
  have HR := Lib.hid (range0 hk1)
  have hc1 := (hb1.cell (p := ⟨g, 0, none⟩) hg).trans hc
  have HO := Lib.hid (odd_any e n h)
  have HB := Lib.hid hb1
  clear hc hg hk1 h hb1
  go_enter Try.func102, Try.ntmps102
  go_wp2_with (first
    | (with_reducible show wpList _ _ _ (Oper.mk _ (Op.load 142 _) _ _ _ _ :: _) _ _; go_must (refine wpList_load_mid rfl 142 (.tmp 2) rfl W.heap.size 0 rfl (cellsE e) _ HR.out Try.underlying142 rfl (by rw [cellsE_len]; exact info142) ?_))
    | (go_at_call 103; refine (HO.out _).mono ?_; rintro o w2 ⟨rfl, hb2⟩; have HB2 := Lib.hid hb2; clear hb2))
  go_ret
  exact ⟨rfl, below_then HB.out HB2.out⟩
/-! ### tags -/
set_option maxRecDepth 100000 in
set_option maxHeartbeats 1000000 in
theorem index_tag (A : Option Addr) (c : Nat) (ts : List Tg) (t : Tg) (w : World) (hn : ts.length ≤ 1000) (hr : Reads w w.heap.size 2 A ts.length (ts.flatMap cellsT)) :
    Calls Try.prog 124 #[.slice A ts.length c, .agg (cellsT t).toArray] w fun o w' => (∃ i : Int, o = .returned (.int .i64 i) ∧ decide (0 ≤ i) = decide (t ∈ ts)) ∧ Below w.heap.size w w' := by
  obtain ⟨w1, hw1⟩ : ∃ w1, w.alloc (.cells (cellsT t).toArray 69) = w1 := ⟨_, rfl⟩
  have hb1 : Below w.heap.size w w1 := by rw [← hw1]; exact (Below.refl _ w).alloc (Nat.le_refl _) _
  have hk1 : Blk w1 w.heap.size 69 (cellsT t).toArray := by rw [← hw1]; exact Blk.new w 69 _
  have HK := Lib.hid (range0 hk1)
  have HB := Lib.hid hb1
  obtain ⟨n, hnn⟩ : ∃ n, n = ts.length := ⟨_, rfl⟩
  have HN := Lib.hid hnn
  have HR := Lib.hid (hr.below hb1)
  obtain ⟨g3, hg3⟩ : ∃ g3, g3 = w.heap.size := ⟨_, rfl⟩
  rw [← hg3] at HK
  have HG3 := Lib.hid hg3
  rw [← hnn] at hn ⊢
  clear hr hnn hb1 hk1 hg3
  go_enter Try.func124, Try.ntmps124
  go_wp2_with fail
  rw [← HG3.out]
  clear hw1
  go_loopw [8] (fun i wr => ∃ k m : Nat, k ≤ n ∧ i = .int .i64 k ∧ Hid (¬ t ∈ ts.take k) ∧ wr = w1.drewN m) (fun i _ => n - (intOf i).toNat)
  case atStart => exact ⟨0, 0, by omega, rfl, Lib.hid (by simp), rfl⟩
  case round =>
    obtain ⟨k, m, hk, rfl, HA, rfl⟩ := hrel
    by_cases hlt : k < n
    · obtain ⟨y, hy⟩ : ∃ y, ts[k]? = some y := ⟨_, List.getElem?_eq_getElem (by rw [← HN.out]; exact hlt)⟩
      obtain ⟨b, o, rfl, hbb, hit⟩ := HR.out.item (f := cellsT) cellsT_len (by omega) (k := k) (by rw [← HN.out]; exact hlt)
      have HY := Lib.hid hy
      have HIT := Lib.hid (hit k y hy)
      have hl1 : (k : Int) < (n : Int) := by omega
      obtain ⟨q, hq⟩ : ∃ q, decide (t = y) = q := ⟨_, rfl⟩
      have HEQ : Hid (∀ W, (binOp .eql 69 (.agg (cellsT t).toArray) (.agg (cellsT y).toArray)).run Try.prog W = .ok (.bool q) W) := Lib.hid (fun W => by rw [eqlT, hq])
      have HQ := Lib.hid hq
      clear hy hit hbb hq
      go_wp2_with fail
      refine wp_region_quiet_lit (by kernel_rfl) (by kernel_rfl) ?_
      repeat (first | go_big_quiet_skip | (go_big_quiet_want; first
        | (with_reducible show Oper.quiet _ (Oper.mk (some 14) _ _ _ _ _) _ _ _; refine quiet_value (.pointer (some ⟨b, o + k * 2, none⟩)) (fun W _ => by go_simp) ?_; go_frame; go_big_quiet_on)
        | (with_reducible show Oper.quiet _ (Oper.mk (some 15) _ _ _ _ _) _ _ _; refine quiet_load_mid 69 (.tmp 14) rfl b (o + k * 2) rfl (cellsT y) _ (fun W hW => hW.elim fun j hj => by subst hj; exact range_drewN (range_drewN HIT.out)) Try.underlying69 rfl (by rw [cellsT_len]; exact info69) ?_; go_frame; go_big_quiet_on)
        | (with_reducible show Oper.quiet _ (Oper.mk (some 11) _ _ _ _ _) _ _ _; refine quiet_load_mid 69 (.tmp 3) rfl g3 0 rfl (cellsT t) _ (fun W hW => hW.elim fun j hj => by subst hj; exact range_drewN (range_drewN HK.out)) Try.underlying69 rfl (by rw [cellsT_len]; exact info69) ?_; go_frame; go_big_quiet_on)
        | (with_reducible show Oper.quiet _ (Oper.mk (some 16) _ _ _ _ _) _ _ _; refine quiet_bin .eql 69 69 _ _ rfl (.agg (cellsT t).toArray) (.agg (cellsT y).toArray) (.bool q) rfl rfl (fun W _ => guardT W _ _ _ _ _) (fun W _ => HEQ.out W) ?_; go_frame; go_big_quiet_on)
        | (go_big_quiet_op; go_big_quiet_on)))
      refine wpQuiet_nil ?_
      rintro _ ⟨nq, rfl⟩
      cases q with
      | true =>
        go_wp2_with fail
        go_ret
        have e := of_decide_eq_true HQ.out
        subst e
        refine ⟨⟨k, rfl, ?_⟩, below_drewN (below_drewN HB.out)⟩
        rw [decide_eq_true (List.mem_of_getElem? HY.out)]; simp
      | false =>
        go_wp2_with fail
        refine ⟨⟨k + 1, m + nq, by omega, by go_num, Lib.hid ?_, rfl⟩, by simp [intOf]; omega⟩
        rw [List.take_add_one, HY.out, List.mem_append]
        have e := of_decide_eq_false HQ.out
        rintro (h | h)
        · exact HA.out h
        · have h' : t = y := by simpa using h
          exact e h'
    · obtain rfl : k = n := by omega
      have hA := HA.out
      rw [List.take_of_length_le (by rw [← HN.out]; exact Nat.le_refl _)] at hA
      have HA2 := Lib.hid hA
      clear hA
      go_wp2_with fail
      go_ret
      exact ⟨⟨-1, rfl, by rw [decide_eq_false HA2.out]; rfl⟩, below_drewN HB.out⟩
set_option maxRecDepth 100000 in
set_option maxHeartbeats 1000000 in
theorem contains_tag (A : Option Addr) (c : Nat) (ts : List Tg) (t : Tg) (w : World) (hn : ts.length ≤ 1000) (hr : Reads w w.heap.size 2 A ts.length (ts.flatMap cellsT)) :
    Calls Try.prog 121 #[.slice A ts.length c, .agg (cellsT t).toArray] w fun o w' => o = .returned (.bool (decide (t ∈ ts))) ∧ Below w.heap.size w w' := by
  obtain ⟨w1, hw1⟩ : ∃ w1, w.alloc (.cells (cellsT t).toArray 69) = w1 := ⟨_, rfl⟩
  have hb1 : Below w.heap.size w w1 := by rw [← hw1]; exact (Below.refl _ w).alloc (Nat.le_refl _) _
  have hk1 : Blk w1 w.heap.size 69 (cellsT t).toArray := by rw [← hw1]; exact Blk.new w 69 _
  have HK := Lib.hid (range0 hk1)
  have HB := Lib.hid hb1
  have HC := Lib.hid (index_tag A c ts t w1 hn ((hr.below hb1).more hb1.size))
  have HGE : Hid (∀ (i : Int) W, (binOp .geq 3 (.int .i64 i) (.int .i64 0)).run Try.prog W = .ok (.bool (decide (0 ≤ i))) W) := Lib.hid (fun i W => by go_simp)
  clear hr hb1 hk1
  go_enter Try.func121, Try.ntmps121
  go_wp2_with (first
    | (with_reducible show wpList _ _ _ (Oper.mk _ (Op.load 69 _) _ _ _ _ :: _) _ _; go_must (refine wpList_load_mid rfl 69 (.tmp 3) rfl w.heap.size 0 rfl (cellsT t) _ HK.out Try.underlying69 rfl (by rw [cellsT_len]; exact info69) ?_))
    | (go_at_call 124; refine HC.out.mono ?_; rintro o w2 ⟨⟨i, rfl, hi⟩, hb2⟩; have HI := Lib.hid hi; have HB2 := Lib.hid hb2; clear hi hb2)
    | (with_reducible show wpList _ _ _ (Oper.mk (some 8) _ _ _ _ _ :: _) _ _; go_must (refine wpList_run rfl (.bool (decide (0 ≤ i))) _ (Ph.run_bin (X := .int .i64 i) (Y := .int .i64 0) rfl rfl rfl rfl (HGE.out i _)) ?_)))
  go_ret
  exact ⟨by rw [HI.out]; rfl, below_then HB.out HB2.out⟩
end Go.Proofs.Ytikhhipgamllgaa
