/- Lists of tags, writes, events: equal ones are found equal. Conditions: short lists. Lists of events: equal ones are found equal. Conditions: short lists. The document's disk in memory; in, has, fails. Conditions: in each theorem. The document's disk: fails, has, New, Barrier, Fail. Conditions: in each theorem. The document's disk: what a store into one of its fields makes of it; has, New, Barrier, Fail. Conditions: in each theorem. From, the program's and the document's; the document's New. Conditions: in each theorem. The document's disk: Barrier, Fail, Read. Conditions: in each theorem. The document's disk: Fail, Read. Conditions: in each theorem. The document's Settle. Conditions: short lists; all that waits has a sector. -/
import Derived.Test.YtikhhipgamllgaaSynced
namespace Go.Proofs.Ytikhhipgamllgaa
open Go.RowKit
set_option maxRecDepth 100000 in
theorem part_ws (x : Wr) (w : World) : (part 66 (cellsW x).toArray 1).run Try.prog w = .ok (.agg (cellsS x.s).toArray) w := by
  obtain ⟨a, s, tk, ti, ep⟩ := x
  obtain ⟨c0, c1, c2, c3, c4, c5, c6, c7, c8, c9, c10, c11, c12, c13, c14, c15, c16, c17, c18, c19, c20, c21, c22, c23, c24, c25, c26, c27, c28, c29, c30, c31, hs⟩ := list32 s.2.1
  show (part 66 (Value.int .i64 a :: (s.1 ++ [.int .i64 tk, .int .i64 ti, .int .i64 ep])).toArray 1).run Try.prog w = .ok (.agg s.1.toArray) w
  rw [hs]
  kernel_rfl
set_option maxRecDepth 100000 in
theorem part_wt (x : Wr) (w : World) : (part 69 (cellsW x).toArray 33).run Try.prog w = .ok (.agg (cellsT x.tg).toArray) w := by
  obtain ⟨a, s, tk, ti, ep⟩ := x
  obtain ⟨c0, c1, c2, c3, c4, c5, c6, c7, c8, c9, c10, c11, c12, c13, c14, c15, c16, c17, c18, c19, c20, c21, c22, c23, c24, c25, c26, c27, c28, c29, c30, c31, hs⟩ := list32 s.2.1
  show (part 69 (Value.int .i64 a :: (s.1 ++ [.int .i64 tk, .int .i64 ti, .int .i64 ep])).toArray 33).run Try.prog w = .ok (.agg #[.int .i64 tk, .int .i64 ti]) w
  rw [hs]
  kernel_rfl
set_option maxRecDepth 100000 in
theorem part_wa (x : Wr) (w : World) : (part 3 (cellsW x).toArray 0).run Try.prog w = .ok (.int .i64 x.at_) w := by kernel_rfl
set_option maxRecDepth 100000 in
theorem part_we (x : Wr) (w : World) : (part 3 (cellsW x).toArray 35).run Try.prog w = .ok (.int .i64 x.ep) w := by
  obtain ⟨a, s, tk, ti, ep⟩ := x
  obtain ⟨c0, c1, c2, c3, c4, c5, c6, c7, c8, c9, c10, c11, c12, c13, c14, c15, c16, c17, c18, c19, c20, c21, c22, c23, c24, c25, c26, c27, c28, c29, c30, c31, hs⟩ := list32 s.2.1
  show (part 3 (Value.int .i64 a :: (s.1 ++ [.int .i64 tk, .int .i64 ti, .int .i64 ep])).toArray 35).run Try.prog w = .ok (.int .i64 ep) w
  rw [hs]
  kernel_rfl
theorem eqIn69 (w : World) (d : Nat) (t : Tg) : (Op.equalIn (d + 2) 69 (.agg (cellsT t).toArray) (.agg (cellsT t).toArray)).run Try.prog w = .ok true w := by
  obtain ⟨a, b⟩ := t
  simp only [cellsT]
  rw [run_equalIn_struct (P := Try.prog) w (d+1) 69 _ _ (by kernel_rfl) (by kernel_rfl)]
  have h69 : (Try.prog.fieldsOf 69).toList = [{ name := "Kind", type := 3, offset := 0, embedded := false, tag := "", pkgPath := "", byteOffset := 0 }, { name := "ID", type := 3, offset := 1, embedded := false, tag := "", pkgPath := "", byteOffset := 8 }] := by kernel_rfl
  rw [h69]
  have p0 : (part 3 #[Value.int .i64 a, Value.int .i64 b] 0).run Try.prog w = .ok (.int .i64 a) w := by kernel_rfl
  have p1 : (part 3 #[Value.int .i64 a, Value.int .i64 b] 1).run Try.prog w = .ok (.int .i64 b) w := by kernel_rfl
  have q := fun (n : Int) => run_equalIn_int w d 3 .i64 .i64 n n Try.underlying3
  simp [Op.eqFields, p0, p1, q]
theorem eqIn108 (w : World) (d : Nat) (x : Wr) : (Op.equalIn (d + 3) 108 (.agg (cellsW x).toArray) (.agg (cellsW x).toArray)).run Try.prog w = .ok true w := by
  rw [run_equalIn_struct (P := Try.prog) w (d+2) 108 _ _ (by kernel_rfl) (by kernel_rfl)]
  obtain ⟨fs, hfs⟩ : ∃ fs, fs = (Try.prog.fieldsOf 108).toList := ⟨_, rfl⟩
  have h108 : (Try.prog.fieldsOf 108).toList.map (fun f => (f.name, f.type, f.offset)) = [("At", 3, 0), ("S", 66, 1), ("Tag", 69, 33), ("Epoch", 3, 35)] := by kernel_rfl
  rw [← hfs] at h108 ⊢
  clear hfs
  rcases fs with _ | ⟨f0, _ | ⟨f1, _ | ⟨f2, _ | ⟨f3, _ | ⟨f4, r⟩⟩⟩⟩⟩ <;> simp at h108
  obtain ⟨⟨n0, t0, o0⟩, ⟨n1, t1, o1⟩, ⟨n2, t2, o2⟩, n3, t3, o3⟩ := h108
  have q := fun (n : Int) => run_equalIn_int w (d + 1) 3 .i64 .i64 n n Try.underlying3
  simp [Op.eqFields, n0, t0, o0, n1, t1, o1, n2, t2, o2, n3, t3, o3, part_wa, part_ws, part_wt, part_we, q, equalIn_sec w d, eqIn69 w d]
theorem neqT (w : World) (t : Tg) : (binOp .neq 69 (.agg (cellsT t).toArray) (.agg (cellsT t).toArray)).run Try.prog w = .ok (.bool false) w := by
  rw [run_neq_struct, eqIn69 w 9998 t]; rfl
theorem neqW (w : World) (x : Wr) : (binOp .neq 108 (.agg (cellsW x).toArray) (.agg (cellsW x).toArray)).run Try.prog w = .ok (.bool false) w := by
  rw [run_neq_struct, eqIn108 w 9997 x]; rfl
theorem guardW (w : World) (op : BinOp) (x y : Operand) (s t : Array Value) : (eqGuard op 108 x y (.agg s) (.agg t)).run Try.prog w = .ok () w := run_eqGuard_agg w op 108 x y s t (by kernel_rfl)
set_option maxRecDepth 100000 in
set_option maxHeartbeats 1000000 in
theorem tags_same (A A' : Option Addr) (c c' : Nat) (l : List Tg) (w : World) (hn : l.length ≤ 1000) (hr : Reads w w.heap.size 2 A l.length (l.flatMap cellsT)) (hr' : Reads w w.heap.size 2 A' l.length (l.flatMap cellsT)) :
    Calls Try.prog 99 #[.slice A l.length c, .slice A' l.length c'] w fun o w' => o = .returned (.bool true) ∧ ∃ m, w' = w.drewN m := by
  obtain ⟨n, hnn⟩ : ∃ n, n = l.length := ⟨_, rfl⟩
  have HN := Lib.hid hnn
  have HR := Lib.hid hr
  have HR' := Lib.hid hr'
  rw [← hnn] at hn ⊢
  clear hr hr' hnn
  go_enter Try.func99, Try.ntmps99
  go_wp2
  go_loopw [5] (fun i wr => ∃ k m : Nat, k ≤ n ∧ i = .int .i64 k ∧ wr = w.drewN m) (fun i _ => n - (intOf i).toNat)
  case atStart => exact ⟨0, 0, by omega, rfl, rfl⟩
  case round =>
    obtain ⟨k, m, hk, rfl, rfl⟩ := hrel
    by_cases hlt : k < n
    · have hl : k < l.length := by rw [← HN.out]; exact hlt
      obtain ⟨b1, o1, rfl, _, hit⟩ := HR.out.item (f := cellsT) cellsT_len (by omega) hl
      obtain ⟨b2, o2, rfl, _, hit'⟩ := HR'.out.item (f := cellsT) cellsT_len (by omega) hl
      obtain ⟨x, hx⟩ : ∃ x, l[k]? = some x := ⟨_, List.getElem?_eq_getElem hl⟩
      have H1 := Lib.hid (hit k x hx)
      have H2 := Lib.hid (hit' k x hx)
      have hl1 : (k : Int) < (n : Int) := by omega
      clear hit hit' hx hl
      go_wp2_with fail
      refine wp_region_quiet_lit (by kernel_rfl) (by kernel_rfl) ?_
      repeat (first | go_big_quiet_skip | (go_big_quiet_want; first
        | (with_reducible show Oper.quiet _ (Oper.mk (some 19) _ _ _ _ _) _ _ _; refine quiet_value (.pointer (some ⟨b1, o1 + k * 2, none⟩)) (fun W _ => by go_simp) ?_; go_frame; go_big_quiet_on)
        | (with_reducible show Oper.quiet _ (Oper.mk (some 20) _ _ _ _ _) _ _ _; refine quiet_load_mid 69 (.tmp 19) rfl b1 (o1 + k * 2) rfl (cellsT x) _ (fun W hW => hW.elim fun j hj => by subst hj; exact range_drewN (range_drewN H1.out)) Try.underlying69 rfl (by rw [cellsT_len]; exact info69) ?_; go_frame; go_big_quiet_on)
        | (with_reducible show Oper.quiet _ (Oper.mk (some 23) _ _ _ _ _) _ _ _; refine quiet_value (.pointer (some ⟨b2, o2 + k * 2, none⟩)) (fun W _ => by go_simp) ?_; go_frame; go_big_quiet_on)
        | (with_reducible show Oper.quiet _ (Oper.mk (some 24) _ _ _ _ _) _ _ _; refine quiet_load_mid 69 (.tmp 23) rfl b2 (o2 + k * 2) rfl (cellsT x) _ (fun W hW => hW.elim fun j hj => by subst hj; exact range_drewN (range_drewN H2.out)) Try.underlying69 rfl (by rw [cellsT_len]; exact info69) ?_; go_frame; go_big_quiet_on)
        | (with_reducible show Oper.quiet _ (Oper.mk (some 25) _ _ _ _ _) _ _ _; refine quiet_bin .neq 69 69 _ _ rfl (.agg (cellsT x).toArray) (.agg (cellsT x).toArray) (.bool false) rfl rfl (fun W _ => guardT W _ _ _ _ _) (fun W _ => neqT W x) ?_; go_frame; go_big_quiet_on)
        | (go_big_quiet_op; go_big_quiet_on)))
      refine wpQuiet_nil ?_
      rintro _ ⟨nq, rfl⟩
      go_wp2_with fail
      exact ⟨⟨k + 1, m + nq, by omega, by go_num, rfl⟩, by simp [intOf]; omega⟩
    · obtain rfl : k = n := by omega
      go_wp2
      go_ret
      exact ⟨rfl, m, rfl⟩
set_option maxRecDepth 100000 in
set_option maxHeartbeats 1000000 in
theorem writes_same (A A' : Option Addr) (c c' : Nat) (l : List Wr) (w : World) (hn : l.length ≤ 1000) (hr : Reads w w.heap.size 36 A l.length (l.flatMap cellsW)) (hr' : Reads w w.heap.size 36 A' l.length (l.flatMap cellsW)) :
    Calls Try.prog 57 #[.slice A l.length c, .slice A' l.length c'] w fun o w' => o = .returned (.bool true) ∧ ∃ m, w' = w.drewN m := by
  obtain ⟨n, hnn⟩ : ∃ n, n = l.length := ⟨_, rfl⟩
  have HN := Lib.hid hnn
  have HR := Lib.hid hr
  have HR' := Lib.hid hr'
  rw [← hnn] at hn ⊢
  clear hr hr' hnn
  go_enter Try.func57, Try.ntmps57
  go_wp2
  go_loopw [5] (fun i wr => ∃ k m : Nat, k ≤ n ∧ i = .int .i64 k ∧ wr = w.drewN m) (fun i _ => n - (intOf i).toNat)
  case atStart => exact ⟨0, 0, by omega, rfl, rfl⟩
  case round =>
    obtain ⟨k, m, hk, rfl, rfl⟩ := hrel
    by_cases hlt : k < n
    · have hl : k < l.length := by rw [← HN.out]; exact hlt
      obtain ⟨b1, o1, rfl, _, hit⟩ := HR.out.item (f := cellsW) cellsW_len (by omega) hl
      obtain ⟨b2, o2, rfl, _, hit'⟩ := HR'.out.item (f := cellsW) cellsW_len (by omega) hl
      obtain ⟨x, hx⟩ : ∃ x, l[k]? = some x := ⟨_, List.getElem?_eq_getElem hl⟩
      have H1 := Lib.hid (hit k x hx)
      have H2 := Lib.hid (hit' k x hx)
      have hl1 : (k : Int) < (n : Int) := by omega
      clear hit hit' hx hl
      go_wp2_with fail
      refine wp_region_quiet_lit (by kernel_rfl) (by kernel_rfl) ?_
      repeat (first | go_big_quiet_skip | (go_big_quiet_want; first
        | (with_reducible show Oper.quiet _ (Oper.mk (some 19) _ _ _ _ _) _ _ _; refine quiet_value (.pointer (some ⟨b1, o1 + k * 36, none⟩)) (fun W _ => by go_simp) ?_; go_frame; go_big_quiet_on)
        | (with_reducible show Oper.quiet _ (Oper.mk (some 20) _ _ _ _ _) _ _ _; refine quiet_load_mid 108 (.tmp 19) rfl b1 (o1 + k * 36) rfl (cellsW x) _ (fun W hW => hW.elim fun j hj => by subst hj; exact range_drewN (range_drewN H1.out)) Try.underlying108 rfl (by rw [cellsW_len]; exact info108) ?_; go_frame; go_big_quiet_on)
        | (with_reducible show Oper.quiet _ (Oper.mk (some 23) _ _ _ _ _) _ _ _; refine quiet_value (.pointer (some ⟨b2, o2 + k * 36, none⟩)) (fun W _ => by go_simp) ?_; go_frame; go_big_quiet_on)
        | (with_reducible show Oper.quiet _ (Oper.mk (some 24) _ _ _ _ _) _ _ _; refine quiet_load_mid 108 (.tmp 23) rfl b2 (o2 + k * 36) rfl (cellsW x) _ (fun W hW => hW.elim fun j hj => by subst hj; exact range_drewN (range_drewN H2.out)) Try.underlying108 rfl (by rw [cellsW_len]; exact info108) ?_; go_frame; go_big_quiet_on)
        | (with_reducible show Oper.quiet _ (Oper.mk (some 25) _ _ _ _ _) _ _ _; refine quiet_bin .neq 108 108 _ _ rfl (.agg (cellsW x).toArray) (.agg (cellsW x).toArray) (.bool false) rfl rfl (fun W _ => guardW W _ _ _ _ _) (fun W _ => neqW W x) ?_; go_frame; go_big_quiet_on)
        | (go_big_quiet_op; go_big_quiet_on)))
      refine wpQuiet_nil ?_
      rintro _ ⟨nq, rfl⟩
      go_wp2_with fail
      exact ⟨⟨k + 1, m + nq, by omega, by go_num, rfl⟩, by simp [intOf]; omega⟩
    · obtain rfl : k = n := by omega
      go_wp2
      go_ret
      exact ⟨rfl, m, rfl⟩
end Go.Proofs.Ytikhhipgamllgaa
namespace Go.Proofs.Ytikhhipgamllgaa
open Go.RowKit
theorem neqI (W : World) (x : Int) : (binOp .neq 3 (.int .i64 x) (.int .i64 x)).run Try.prog W = .ok (.bool false) W := by
  go_simp
theorem cellsE_w (e : Ev) : ∀ j v, (cellsW e.w)[j]? = some v → (cellsE e)[1 + j]? = some v := fun j v h => by
  have hj : j < 36 := by have := (List.getElem?_eq_some_iff.1 h).1; rwa [cellsW_len] at this
  unfold cellsE
  rw [show 1 + j = j + 1 by omega, List.getElem?_cons_succ, List.getElem?_append_left (by rw [cellsW_len]; omega)]
  exact h
set_option maxRecDepth 100000 in
set_option maxHeartbeats 2000000 in
theorem events_same (A A' : Option Addr) (c c' : Nat) (es fs : List Ev) (w : World) (hn : es.length ≤ 1000) (hsig : fs.map sigE = es.map sigE) (hr : Reads w w.heap.size 38 A es.length (es.flatMap cellsE)) (hr' : Reads w w.heap.size 38 A' fs.length (fs.flatMap cellsE))
    (ht : ∀ e ∈ es, e.tags.length ≤ 1000 ∧ Reads w w.heap.size 2 e.A e.tags.length (e.tags.flatMap cellsT)) (ht' : ∀ e ∈ fs, Reads w w.heap.size 2 e.A e.tags.length (e.tags.flatMap cellsT)) :
    Calls Try.prog 58 #[.slice A es.length c, .slice A' fs.length c'] w fun o w' => o = .returned (.bool true) ∧ ∃ m, w' = w.drewN m := by
  have hlen : fs.length = es.length := by have := congrArg List.length hsig; simpa using this
  obtain ⟨n, hnn⟩ : ∃ n, n = es.length := ⟨_, rfl⟩
  rw [hlen, ← hnn]
  have HN := Lib.hid hnn
  have HM : Hid (n = fs.length) := Lib.hid (by rw [hlen]; exact hnn)
  have HR := Lib.hid hr
  have HR' := Lib.hid hr'
  have HT := Lib.hid ht
  have HT' := Lib.hid ht'
  have HSG := Lib.hid hsig
  rw [← hnn] at hn
  clear hr hr' hnn hlen ht ht' hsig
  go_enter Try.func58, Try.ntmps58
  go_wp2
  go_loopw [5] (fun i wr => ∃ k m : Nat, k ≤ n ∧ i = .int .i64 k ∧ wr = w.drewN m) (fun i _ => n - (intOf i).toNat)
  case atStart => exact ⟨0, 0, by omega, rfl, rfl⟩
  case round =>
    obtain ⟨k, m, hk, rfl, rfl⟩ := hrel
    by_cases hlt : k < n
    · have hl : k < es.length := by rw [← HN.out]; exact hlt
      have hl' : k < fs.length := by rw [← HM.out]; exact hlt
      obtain ⟨b1, o1, rfl, _, hit⟩ := HR.out.item (f := cellsE) cellsE_len (by omega) hl
      obtain ⟨b2, o2, rfl, _, hit'⟩ := HR'.out.item (f := cellsE) cellsE_len (by omega) hl'
      obtain ⟨e, he⟩ : ∃ e, es[k]? = some e := ⟨_, List.getElem?_eq_getElem hl⟩
      obtain ⟨f, hf⟩ : ∃ f, fs[k]? = some f := ⟨_, List.getElem?_eq_getElem hl'⟩
      have hs : sigE f = sigE e := by
        have := congrArg (fun l => l[k]?) HSG.out
        simpa [List.getElem?_map, he, hf] using this
      have h1 := hit k e he
      have h2 := hit' k f hf
      have hte := HT.out e (List.mem_of_getElem? he)
      have htf := HT'.out f (List.mem_of_getElem? hf)
      obtain ⟨ekd, x, ts, eA, ec⟩ := e
      obtain ⟨kd, x', ts', fA, fc⟩ := f
      simp only [sigE, Prod.mk.injEq] at hs
      obtain ⟨e1, e2, e3⟩ := hs
      subst e1 e2 e3
      have K1 : Hid (w.cell? ⟨b1, o1 + k * 38, none⟩ = some (.int .i64 kd)) := Lib.hid (h1 0 _ rfl)
      have K2 : Hid (w.cell? ⟨b2, o2 + k * 38, none⟩ = some (.int .i64 kd)) := Lib.hid (h2 0 _ rfl)
      have W1 : Hid (w.rangeAt b1 (o1 + k * 38 + 1) (cellsW x')) := Lib.hid (rangeAt_part h1 1 _ (cellsE_w ⟨kd, x', ts', eA, ec⟩))
      have W2 : Hid (w.rangeAt b2 (o2 + k * 38 + 1) (cellsW x')) := Lib.hid (rangeAt_part h2 1 _ (cellsE_w ⟨kd, x', ts', fA, fc⟩))
      have t1 : w.cell? ⟨b1, o1 + k * 38 + 37, none⟩ = some (.slice eA ts'.length ec) := h1 37 _ (cellsE_v _)
      have t2 : w.cell? ⟨b2, o2 + k * 38 + 37, none⟩ = some (.slice fA ts'.length fc) := h2 37 _ (cellsE_v _)
      have ct : ∀ m j : Nat, Calls Try.prog 99 #[.slice eA ts'.length ec, .slice fA ts'.length fc] ((w.drewN m).drewN j) fun o w' => o = .returned (.bool true) ∧ ∃ q, w' = ((w.drewN m).drewN j).drewN q := fun m j => tags_same eA fA ec fc ts' _ hte.1 ((hte.2.drewN m).drewN j) ((htf.drewN m).drewN j)
      obtain ⟨tn, htn⟩ : ∃ tn, tn = ts'.length := ⟨_, rfl⟩
      rw [← htn] at t1 t2 ct
      have T1 := Lib.hid t1
      have T2 := Lib.hid t2
      have CT := Lib.hid ct
      have hl1 : (k : Int) < (n : Int) := by omega
      clear hit hit' he hf h1 h2 hte htf t1 t2 ct htn hl hl'
      go_wp2_with fail
      refine wp_region_quiet_lit (by kernel_rfl) (by kernel_rfl) ?_
      repeat (first | go_big_quiet_skip | (go_big_quiet_want; first
        | (with_reducible show Oper.quiet _ (Oper.mk (some 19) _ _ _ _ _) _ _ _; refine quiet_value (.pointer (some ⟨b1, o1 + k * 38, none⟩)) (fun W _ => by go_simp) ?_; go_frame; go_big_quiet_on)
        | (with_reducible show Oper.quiet _ (Oper.mk (some 20) _ _ _ _ _) _ _ _; refine quiet_value (.pointer (some ⟨b1, o1 + k * 38, none⟩)) (fun W _ => by go_simp) ?_; go_frame; go_big_quiet_on)
        | (with_reducible show Oper.quiet _ (Oper.mk (some 24) _ _ _ _ _) _ _ _; refine quiet_value (.pointer (some ⟨b2, o2 + k * 38, none⟩)) (fun W _ => by go_simp) ?_; go_frame; go_big_quiet_on)
        | (with_reducible show Oper.quiet _ (Oper.mk (some 25) _ _ _ _ _) _ _ _; refine quiet_value (.pointer (some ⟨b2, o2 + k * 38, none⟩)) (fun W _ => by go_simp) ?_; go_frame; go_big_quiet_on)
        | (with_reducible show Oper.quiet _ (Oper.mk (some 31) _ _ _ _ _) _ _ _; refine quiet_value (.pointer (some ⟨b1, o1 + k * 38, none⟩)) (fun W _ => by go_simp) ?_; go_frame; go_big_quiet_on)
        | (with_reducible show Oper.quiet _ (Oper.mk (some 32) _ _ _ _ _) _ _ _; refine quiet_value (.pointer (some ⟨b1, o1 + k * 38 + 1, none⟩)) (fun W _ => by go_simp) ?_; go_frame; go_big_quiet_on)
        | (with_reducible show Oper.quiet _ (Oper.mk (some 36) _ _ _ _ _) _ _ _; refine quiet_value (.pointer (some ⟨b2, o2 + k * 38, none⟩)) (fun W _ => by go_simp) ?_; go_frame; go_big_quiet_on)
        | (with_reducible show Oper.quiet _ (Oper.mk (some 37) _ _ _ _ _) _ _ _; refine quiet_value (.pointer (some ⟨b2, o2 + k * 38 + 1, none⟩)) (fun W _ => by go_simp) ?_; go_frame; go_big_quiet_on)
        | (with_reducible show Oper.quiet _ (Oper.mk (some 44) _ _ _ _ _) _ _ _; refine quiet_value (.pointer (some ⟨b1, o1 + k * 38, none⟩)) (fun W _ => by go_simp) ?_; go_frame; go_big_quiet_on)
        | (with_reducible show Oper.quiet _ (Oper.mk (some 45) _ _ _ _ _) _ _ _; refine quiet_value (.pointer (some ⟨b1, o1 + k * 38 + 37, none⟩)) (fun W _ => by go_simp) ?_; go_frame; go_big_quiet_on)
        | (with_reducible show Oper.quiet _ (Oper.mk (some 49) _ _ _ _ _) _ _ _; refine quiet_value (.pointer (some ⟨b2, o2 + k * 38, none⟩)) (fun W _ => by go_simp) ?_; go_frame; go_big_quiet_on)
        | (with_reducible show Oper.quiet _ (Oper.mk (some 50) _ _ _ _ _) _ _ _; refine quiet_value (.pointer (some ⟨b2, o2 + k * 38 + 37, none⟩)) (fun W _ => by go_simp) ?_; go_frame; go_big_quiet_on)
        | (with_reducible show Oper.quiet _ (Oper.mk (some 21) _ _ _ _ _) _ _ _; refine quiet_load_one 3 (.tmp 20) rfl b1 (o1 + k * 38) rfl (.int .i64 kd) (fun W hW => hW.elim fun j hj => by subst hj; exact ld3 (cell_drewN (cell_drewN K1.out))) ?_; go_frame; go_big_quiet_on)
        | (with_reducible show Oper.quiet _ (Oper.mk (some 26) _ _ _ _ _) _ _ _; refine quiet_load_one 3 (.tmp 25) rfl b2 (o2 + k * 38) rfl (.int .i64 kd) (fun W hW => hW.elim fun j hj => by subst hj; exact ld3 (cell_drewN (cell_drewN K2.out))) ?_; go_frame; go_big_quiet_on)
        | (with_reducible show Oper.quiet _ (Oper.mk (some 27) _ _ _ _ _) _ _ _; refine quiet_bin .neq 3 3 _ _ rfl (.int .i64 kd) (.int .i64 kd) (.bool false) rfl rfl (fun W _ => rfl) (fun W _ => neqI W kd) ?_; go_frame; go_big_quiet_on)
        | (with_reducible show Oper.quiet _ (Oper.mk (some 33) _ _ _ _ _) _ _ _; refine quiet_load_mid 108 (.tmp 32) rfl b1 (o1 + k * 38 + 1) rfl (cellsW x') _ (fun W hW => hW.elim fun j hj => by subst hj; exact range_drewN (range_drewN W1.out)) Try.underlying108 rfl (by rw [cellsW_len]; exact info108) ?_; go_frame; go_big_quiet_on)
        | (with_reducible show Oper.quiet _ (Oper.mk (some 38) _ _ _ _ _) _ _ _; refine quiet_load_mid 108 (.tmp 37) rfl b2 (o2 + k * 38 + 1) rfl (cellsW x') _ (fun W hW => hW.elim fun j hj => by subst hj; exact range_drewN (range_drewN W2.out)) Try.underlying108 rfl (by rw [cellsW_len]; exact info108) ?_; go_frame; go_big_quiet_on)
        | (with_reducible show Oper.quiet _ (Oper.mk (some 39) _ _ _ _ _) _ _ _; refine quiet_bin .neq 108 108 _ _ rfl (.agg (cellsW x').toArray) (.agg (cellsW x').toArray) (.bool false) rfl rfl (fun W _ => guardW W _ _ _ _ _) (fun W _ => neqW W x') ?_; go_frame; go_big_quiet_on)
        | (with_reducible show Oper.quiet _ (Oper.mk (some 40) _ _ _ _ _) _ _ _; refine quiet_value (.bool false) (fun W _ => Ph.run_pick_f rfl rfl rfl) ?_; go_frame; go_big_quiet_on)
        | (with_reducible show Oper.quiet _ (Oper.mk (some 46) _ _ _ _ _) _ _ _; refine quiet_load_one 70 (.tmp 45) rfl b1 (o1 + k * 38 + 37) rfl (.slice eA tn ec) (fun W hW => hW.elim fun j hj => by subst hj; exact ld70 (cell_drewN (cell_drewN T1.out))) ?_; go_frame; go_big_quiet_on)
        | (with_reducible show Oper.quiet _ (Oper.mk (some 51) _ _ _ _ _) _ _ _; refine quiet_load_one 70 (.tmp 50) rfl b2 (o2 + k * 38 + 37) rfl (.slice fA tn fc) (fun W hW => hW.elim fun j hj => by subst hj; exact ld70 (cell_drewN (cell_drewN T2.out))) ?_; go_frame; go_big_quiet_on)
        | (with_reducible show Oper.quiet _ (Oper.mk (some 52) _ _ _ _ _) _ _ _; refine quiet_call 99 #[.slice eA tn ec, .slice fA tn fc] (.bool true) (fun W _ => by go_simp) (fun W hW => hW.elim fun j hj => by subst hj; exact (CT.out m j).mono fun e w' h => ⟨h.1, h.2.elim fun q hq => ⟨j + q, by rw [hq, World.drewN_drewN]⟩⟩) ?_; go_frame; go_big_quiet_on)
        | (with_reducible show Oper.quiet _ (Oper.mk (some 53) _ _ _ _ _) _ _ _; refine quiet_value (.bool false) (fun W _ => by go_simp) ?_; go_frame; go_big_quiet_on)
        | (with_reducible show Oper.quiet _ (Oper.mk (some 54) _ _ _ _ _) _ _ _; refine quiet_value (.bool false) (fun W _ => Ph.run_pick_f rfl rfl rfl) ?_; go_frame; go_big_quiet_on)
        | (go_big_quiet_op; go_big_quiet_on)))
      refine wpQuiet_nil ?_
      rintro _ ⟨nq, rfl⟩
      go_wp2_with fail
      exact ⟨⟨k + 1, m + nq, by omega, by go_num, rfl⟩, by simp [intOf]; omega⟩
    · obtain rfl : k = n := by omega
      go_wp2
      go_ret
      exact ⟨rfl, m, rfl⟩
end Go.Proofs.Ytikhhipgamllgaa
namespace Go.Proofs.Ytikhhipgamllgaa
open Go.RowKit
structure Rk where
  safe : List Sec
  wait : List Wr
  ep : Nat
  log : List Ev
  bad : List Int
  asked : Nat
def cellsR (sv wv : Value) (ep : Nat) (lv fv : Value) (asked : Nat) : Array Value := #[sv, wv, .int .i64 ep, lv, fv, .int .i64 asked]
structure RefV (w : World) (F : Nat → Prop) (g : Nat) (R : Rk) (sv wv lv fv : Value) : Prop where
  blk : Blk w g 91 (cellsR sv wv R.ep lv fv R.asked)
  own : F g
  lt : ∀ k, F k → k < w.heap.size
  safe : RowF w F 66 32 sv R.safe.length (R.safe.flatMap cellsS)
  wait : RowF w F 108 36 wv R.wait.length (R.wait.flatMap cellsW)
  log : RowF w F 142 38 lv R.log.length (R.log.flatMap cellsE)
  bad : RowF w F 3 1 fv R.bad.length (iz R.bad)
  tags : ∀ e ∈ R.log, RowF w F 69 2 e.v e.tags.length (e.tags.flatMap cellsT)
def RefAt (w : World) (F : Nat → Prop) (g : Nat) (R : Rk) : Prop := ∃ sv wv lv fv, RefV w F g R sv wv lv fv
section
variable {F G : Nat → Prop} {w w' : World} {g : Nat} {R : Rk} {sv wv lv fv : Value}
theorem RefV.keep (h : RefV w F g R sv wv lv fv) (ho : OnlyF G w w') (hd : ∀ k, F k → ¬ G k) : RefV w' F g R sv wv lv fv :=
  ⟨ho.blk h.blk (hd g h.own), h.own, fun k hk => Nat.lt_of_lt_of_le (h.lt k hk) ho.size, h.safe.keep ho hd, h.wait.keep ho hd, h.log.keep ho hd, h.bad.keep ho hd, fun e he => (h.tags e he).keep ho hd⟩
theorem RefV.below (h : RefV w F g R sv wv lv fv) (hb : Below w.heap.size w w') : RefV w' F g R sv wv lv fv := h.keep (G := fun _ => False) (OnlyF.of_below hb) (fun _ _ h => h)
theorem RefAt.keep (h : RefAt w F g R) (ho : OnlyF G w w') (hd : ∀ k, F k → ¬ G k) : RefAt w' F g R := by
  obtain ⟨a, b, c, d, h⟩ := h
  exact ⟨a, b, c, d, h.keep ho hd⟩
theorem RefAt.below (h : RefAt w F g R) (hb : Below w.heap.size w w') : RefAt w' F g R := h.keep (G := fun _ => False) (OnlyF.of_below hb) (fun _ _ h => h)
theorem RefAt.lt (h : RefAt w F g R) : ∀ k, F k → k < w.heap.size := by obtain ⟨a, b, c, d, h⟩ := h; exact h.lt
end
def RTurned (w : World) (F : Nat → Prop) (g : Nat) (R' : Rk) (w' : World) : Prop := ∃ F', RefAt w' F' g R' ∧ Wider F F' w w' ∧ OnlyF F w w'
section
variable {w w2 : World} {F : Nat → Prop} {g : Nat} {R R' : Rk} {sv wv lv fv sv' wv' lv' fv' : Value} {cs : Array Value}
theorem RowF.past91 {e : TypeId} {size n : Nat} {v : Value} {xs : List Value} {F2 : Nat → Prop} (hr : RowF w F e size v n xs) (hb : Blk w g 91 cs) (he : e ≠ 91) (ho : OnlyF (fun k => k = g) w w2) : RowF w2 (fun k => F k ∨ F2 k) e size v n xs :=
  ⟨ho.own hr.1 (fun k hk hh => by subst hh; exact own_blk_ne hr.1 hb he hk), fun k hk => .inl (hr.2 k hk)⟩
/-- the disk's own block, and new blocks -/
theorem RefV.upd (h : RefV w F g R sv wv lv fv) (hO : OnlyF (fun k => k = g) w w2) (hb : Blk w2 g 91 (cellsR sv' wv' R'.ep lv' fv' R'.asked)) (F2 : Nat → Prop) (hF2 : ∀ k, F2 k → w.heap.size ≤ k ∧ k < w2.heap.size)
    (hs : RowF w2 (fun k => F k ∨ F2 k) 66 32 sv' R'.safe.length (R'.safe.flatMap cellsS)) (hw : RowF w2 (fun k => F k ∨ F2 k) 108 36 wv' R'.wait.length (R'.wait.flatMap cellsW)) (hl : RowF w2 (fun k => F k ∨ F2 k) 142 38 lv' R'.log.length (R'.log.flatMap cellsE))
    (hf : RowF w2 (fun k => F k ∨ F2 k) 3 1 fv' R'.bad.length (iz R'.bad)) (ht : ∀ e ∈ R'.log, RowF w2 (fun k => F k ∨ F2 k) 69 2 e.v e.tags.length (e.tags.flatMap cellsT)) :
    ∃ F', RefV w2 F' g R' sv' wv' lv' fv' ∧ Wider F F' w w2 ∧ OnlyF F w w2 :=
  ⟨fun k => F k ∨ F2 k, ⟨hb, .inl h.own, fun k hk => hk.elim (fun h' => Nat.lt_of_lt_of_le (h.lt k h') hO.size) (fun h' => (hF2 k h').2), hs, hw, hl, hf, ht⟩, fun k hk => hk.elim .inl (fun h' => .inr (hF2 k h')), hO.mono (fun k hk => by subst hk; exact h.own)⟩
theorem RefV.cell (h : RefV w F g R sv wv lv fv) (i : Nat) : w.cell? ⟨g, i, none⟩ = (cellsR sv wv R.ep lv fv R.asked)[i]? := h.blk.cell i
end
theorem RTurned.trans {w w1 w2 : World} {F F1 : Nat → Prop} {g : Nat} {R : Rk} (hw : Wider F F1 w w1) (ho : OnlyF F w w1) (h : RTurned w1 F1 g R w2) : RTurned w F g R w2 := by
  obtain ⟨F', hr, hw2, ho2⟩ := h
  refine ⟨F', hr, fun k hk => ?_, ho.trans ho2 (fun k hk h => (hw k h).elim id (fun h => by omega))⟩
  rcases hw2 k hk with h | h
  · rcases hw k h with h | h
    · exact .inl h
    · exact .inr ⟨h.1, Nat.lt_of_lt_of_le h.2 ho2.size⟩
  · exact .inr ⟨Nat.le_trans ho.size h.1, h.2⟩
theorem iz_cat : ∀ l : List Int, iz l = l.flatMap (fun i => [Value.int .i64 i])
  | [] => rfl
  | x :: l => by
    rw [List.flatMap_cons, ← iz_cat l]
    rfl
theorem in_any (A : Option Addr) (c : Nat) (l : List Int) (x : Int) (w : World) (hn : l.length ≤ 100000) (hr : Reads w w.heap.size 1 A l.length (iz l)) : Calls Try.prog 119 #[.slice A l.length c, .int .i64 x] w fun o w' => o = .returned (.bool (l.contains x)) ∧ w' = w := by
  obtain ⟨n, hnn⟩ : ∃ n, n = l.length := ⟨_, rfl⟩
  have HN := Lib.hid hnn
  have HR := Lib.hid hr
  rw [← hnn] at hn ⊢
  clear hr hnn
  go_enter Try.func119, Try.ntmps119
  go_wp2
  go_loopw [5] (fun i wr => ∃ k : Nat, k ≤ n ∧ i = .int .i64 k ∧ Hid ((l.take k).contains x = false) ∧ wr = w) (fun i _ => n - (intOf i).toNat)
  case atStart => exact ⟨0, by omega, rfl, Lib.hid (by simp), rfl⟩
  case round =>
    obtain ⟨k, hk, rfl, HA, rfl⟩ := hrel
    by_cases hlt : k < n
    · obtain ⟨y, hy⟩ : ∃ y, l[k]? = some y := ⟨_, List.getElem?_eq_getElem (by rw [← HN.out]; exact hlt)⟩
      have hr2 := HR.out
      rw [iz_cat] at hr2
      obtain ⟨b, o, rfl, hbb, hit⟩ := hr2.item (size := 1) (f := fun i => [Value.int .i64 i]) (fun _ => rfl) (by omega) (k := k) (by rw [← HN.out]; exact hlt)
      have hc : wr.cell? ⟨b, o + k, none⟩ = some (.int .i64 y) := by
        have := hit k y hy 0 _ rfl
        simpa using this
      have HY := Lib.hid hy
      have hl1 : (k : Int) < (n : Int) := by omega
      clear hy hit hr2 hbb
      by_cases e : y = x
      · subst e
        have e1 : (y == y) = true := by simp
        go_wp2
        go_ret
        refine ⟨?_, rfl⟩
        rw [List.contains_iff_mem.2 (List.mem_of_getElem? HY.out)]
        rfl
      · have e1 : (y == x) = false := by simpa using e
        have e2 : (y = x) = False := eq_false e
        have HE := Lib.hid e
        clear e
        go_wp2
        refine ⟨⟨k + 1, by omega, by go_num, Lib.hid ?_, trivial⟩, by simp [intOf]; omega⟩
        rw [List.take_add_one, HY.out, List.contains_eq_any_beq, List.any_append, ← List.contains_eq_any_beq, HA.out]
        have := HE.out
        simp
        exact fun h => this h.symm
    · obtain rfl : k = n := by omega
      have hA := HA.out
      rw [List.take_of_length_le (by rw [← HN.out]; exact Nat.le_refl _)] at hA
      have HA2 := Lib.hid hA
      clear hA
      go_wp2
      go_ret
      exact ⟨by rw [HA2.out]; rfl, rfl⟩
end Go.Proofs.Ytikhhipgamllgaa
namespace Go.Proofs.Ytikhhipgamllgaa
open Go.RowKit
def Rk.fails (R : Rk) : Bool := R.bad.contains (R.asked : Int)
def Rk.next (R : Rk) : Rk := { R with asked := R.asked + 1 }
section
variable {w : World} {F : Nat → Prop} {g : Nat} {R : Rk} {sv wv lv fv : Value}
theorem st3i {W : World} {g i : Nat} {u : Value} {x : Int} (h : W.cell? ⟨g, i, none⟩ = some u) (hf : W.frozen? ⟨g, i, none⟩ = false) : (Instr.storeAt 3 (.pointer (some ⟨g, i, none⟩)) (.int .i64 x)).run Try.prog W = .ok () (W.setCell ⟨g, i, none⟩ (.int .i64 x)) := by go_simp
theorem wrapI {n : Int} (h0 : 0 ≤ n) (h1 : n ≤ 1000000000) : IntKind.i64.wrap n = n := by
  simp [IntKind.wrap, IntKind.signed, IntKind.bits]
  omega
theorem add3 {n : Nat} (hn : n ≤ 1000000) (W : World) : (binOp .add 3 (.int .i64 (n : Nat)) (.int .i64 1)).run Try.prog W = .ok (.int .i64 ((n + 1 : Nat) : Int)) W := by
  have h2 : IntKind.i64.wrap ((n : Int) + 1) = (n : Int) + 1 := wrapI (by omega) (by omega)
  go_simp
theorem sub3 {n : Nat} (hn : n ≤ 1000000) (W : World) : (binOp .sub 3 (.int .i64 ((n + 1 : Nat) : Int)) (.int .i64 1)).run Try.prog W = .ok (.int .i64 (n : Nat)) W := by
  have h2 : IntKind.i64.wrap (n : Int) = (n : Int) := wrapI (by omega) (by omega)
  have e : (n : Int) + 1 - 1 = (n : Int) := by omega
  go_simp
theorem ld33 {W : World} {g i : Nat} {v : Value} (h : W.cell? ⟨g, i, none⟩ = some v) : (Instr.loadAt 33 (.pointer (some ⟨g, i, none⟩))).run Try.prog W = .ok v W := by go_simp
theorem RefV.set5 (h : RefV w F g R sv wv lv fv) (n : Nat) : RefV (w.setCell ⟨g, 5, none⟩ (.int .i64 (n : Nat))) F g { R with asked := n } sv wv lv fv ∧ OnlyF (fun k => k = g) w (w.setCell ⟨g, 5, none⟩ (.int .i64 (n : Nat))) := by
  have hO : OnlyF (fun k => k = g) w (w.setCell ⟨g, 5, none⟩ (.int .i64 (n : Nat))) := (OnlyF.refl _ w).grown (setCell_grown w g 5 _) (fun k e _ => by cases e; rfl)
  have hb := h.blk.set_ 5 (.int .i64 (n : Nat))
  have keepR : ∀ {e : TypeId} {size n : Nat} {v : Value} {xs : List Value} {W2 : World}, OnlyF (fun k => k = g) w W2 → e ≠ 91 → RowF w F e size v n xs → RowF W2 F e size v n xs := fun ho he hr => ⟨ho.own hr.1 (fun k hk hh => by subst hh; exact own_blk_ne hr.1 h.blk he hk), hr.2⟩
  exact ⟨⟨by simpa [cellsR] using hb, h.own, fun k hk => Nat.lt_of_lt_of_le (h.lt k hk) hO.size, keepR hO (by decide) h.safe, keepR hO (by decide) h.wait, keepR hO (by decide) h.log, keepR hO (by decide) h.bad, fun e he => keepR hO (by decide) (h.tags e he)⟩, hO⟩
set_option maxHeartbeats 1000000 in
theorem rfails_any (h : RefV w F g R sv wv lv fv) (hn : R.asked ≤ 1000000) (hb : R.bad.length ≤ 100000) : Calls Try.prog 113 #[.pointer (some ⟨g, 0, none⟩)] w fun o w' => o = .returned (.bool R.fails) ∧ RefV w' F g R.next sv wv lv fv ∧ OnlyF (fun k => k = g) w w' := by
  obtain ⟨A, c, rfl, _⟩ := own_slice h.bad.1
  obtain ⟨h2, hO⟩ := h.set5 (R.asked + 1)
  have hr := Reads.of_own h2.bad.1
  have c5 : w.cell? ⟨g, 5, none⟩ = some (.int .i64 R.asked) := h.cell 5
  have f5 : w.frozen? ⟨g, 5, none⟩ = false := h.blk.frozen 5
  have hst := st3i (x := ((R.asked + 1 : Nat) : Int)) c5 f5
  obtain ⟨w2, hw2⟩ : ∃ w2, w.setCell ⟨g, 5, none⟩ (.int .i64 ((R.asked + 1 : Nat) : Int)) = w2 := ⟨_, rfl⟩
  rw [hw2] at h2 hO hst hr
  have HC4 : Hid (w2.cell? ⟨g, 4, none⟩ = some (.slice A R.bad.length c)) := Lib.hid (h2.cell 4)
  have HC5 : Hid (w2.cell? ⟨g, 5, none⟩ = some (.int .i64 ((R.asked + 1 : Nat) : Int))) := Lib.hid (h2.cell 5)
  have CI : ∀ j : Nat, Calls Try.prog 119 #[.slice A R.bad.length c, .int .i64 (R.asked : Nat)] (w2.drewN j) fun o w' => o = .returned (.bool R.fails) ∧ w' = w2.drewN j := fun j => in_any A c R.bad (R.asked : Nat) (w2.drewN j) hb (hr.drewN j)
  obtain ⟨n, hnn⟩ : ∃ n, n = R.asked := ⟨_, rfl⟩
  obtain ⟨m, hm⟩ : ∃ m, m = R.bad.length := ⟨_, rfl⟩
  obtain ⟨b, hbb⟩ : ∃ b, b = R.fails := ⟨_, rfl⟩
  rw [← hnn] at c5 HC5 hst hn
  rw [← hm] at HC4
  simp only [← hnn, ← hm, ← hbb] at CI
  rw [← hm] at h2
  rw [← hbb]
  have HMM := Lib.hid hm
  have HST := Lib.hid hst
  have H2 := Lib.hid h2
  have HO := Lib.hid hO
  have HCI := Lib.hid CI
  have HADD := Lib.hid (fun W => add3 hn W)
  have HSUB := Lib.hid (fun W => sub3 hn W)
  clear h h2 hO hr hst hw2 CI hnn hm hbb hb f5
  go_enter Try.func113, Try.ntmps113
  go_wp2_with (first
    | (with_reducible show wpList _ _ _ (Oper.mk (some 7) _ _ _ _ _ :: _) _ _; go_must (refine wpList_wrun rfl _ (Ph.run_bin (X := .int .i64 (n : Nat)) (Y := .int .i64 1) rfl rfl rfl rfl (HADD.out _)) ?_))
    | (with_reducible show wpList _ _ _ (Oper.mk none (Op.store 3 _ _) _ _ _ _ :: _) _ _; go_must (refine wpList_done rfl w2 (Ph.run_store (X := .pointer (some ⟨g, 5, none⟩)) (Y := .int .i64 ((n + 1 : Nat) : Int)) rfl rfl rfl HST.out) ?_)))
  refine wp_region_quiet_lit (by kernel_rfl) (by kernel_rfl) ?_
  go_frame
  repeat (first | go_big_quiet_skip | (go_big_quiet_want; first
    | (with_reducible show Oper.quiet _ (Oper.mk _ (Op.nilCheck _) _ _ _ _) _ _ _; refine quiet_value (.pointer (some ⟨g, 0, none⟩)) (fun W _ => Ph.run_nilCheck rfl rfl) ?_; go_frame; go_big_quiet_on)
    | (with_reducible show Oper.quiet _ (Oper.mk (some 12) _ _ _ _ _) _ _ _; refine quiet_value (.pointer (some ⟨g, 4, none⟩)) (fun W _ => by go_simp) ?_; go_frame; go_big_quiet_on)
    | (with_reducible show Oper.quiet _ (Oper.mk (some 13) _ _ _ _ _) _ _ _; refine quiet_load_one 33 (.tmp 12) rfl g 4 rfl (.slice A m c) (fun W hW => hW.elim fun j hj => by subst hj; exact ld33 (cell_drewN HC4.out)) ?_; go_frame; go_big_quiet_on)
    | (with_reducible show Oper.quiet _ (Oper.mk (some 16) _ _ _ _ _) _ _ _; refine quiet_value (.pointer (some ⟨g, 5, none⟩)) (fun W _ => by go_simp) ?_; go_frame; go_big_quiet_on)
    | (with_reducible show Oper.quiet _ (Oper.mk (some 17) _ _ _ _ _) _ _ _; refine quiet_load_one 3 (.tmp 16) rfl g 5 rfl (.int .i64 ((n + 1 : Nat) : Int)) (fun W hW => hW.elim fun j hj => by subst hj; exact ld3 (cell_drewN HC5.out)) ?_; go_frame; go_big_quiet_on)
    | (with_reducible show Oper.quiet _ (Oper.mk (some 18) _ _ _ _ _) _ _ _; refine quiet_bin .sub 3 3 _ _ rfl (.int .i64 ((n + 1 : Nat) : Int)) (.int .i64 1) (.int .i64 (n : Nat)) rfl rfl (fun W _ => rfl) (fun W _ => HSUB.out W) ?_; go_frame; go_big_quiet_on)
    | (with_reducible show Oper.quiet _ (Oper.mk (some 19) _ _ _ _ _) _ _ _; refine quiet_call 119 #[.slice A m c, .int .i64 (n : Nat)] (.bool b) (fun W _ => by go_simp) (fun W hW => hW.elim fun j hj => by subst hj; exact (HCI.out j).mono fun e w' h => ⟨h.1, j, h.2⟩) ?_; go_frame; go_big_quiet_on)
    | (go_big_quiet_op; go_big_quiet_on)))
  refine wpQuiet_nil ?_
  rintro _ ⟨nq, rfl⟩
  go_wp2_with fail
  go_ret
  rw [← HMM.out]
  have hdr : Below w2.heap.size w2 (w2.drewN nq) := ⟨rfl, rfl, rfl, Nat.le_refl _, fun _ _ => rfl⟩
  exact ⟨rfl, H2.out.below hdr, HO.out.andThen hdr⟩
end
end Go.Proofs.Ytikhhipgamllgaa
namespace Go.Proofs.Ytikhhipgamllgaa
open Go.RowKit
section
variable {w w1 : World} {F : Nat → Prop} {g : Nat} {R : Rk} {sv wv lv fv v : Value}
/-- the blocks behind a store of a row of new blocks -/
def More (F : Nat → Prop) (w w1 : World) (k : Nat) : Prop := F k ∨ (w.heap.size ≤ k ∧ k < w1.heap.size)
theorem RefV.store (h : RefV w F g R sv wv lv fv) (hb : Below w.heap.size w w1) (i : Nat) (v : Value) :
    OnlyF (fun k => k = g) w1 (w1.setCell ⟨g, i, none⟩ v) ∧ OnlyF F w (w1.setCell ⟨g, i, none⟩ v) ∧ Blk (w1.setCell ⟨g, i, none⟩ v) g 91 ((cellsR sv wv R.ep lv fv R.asked).setIfInBounds i v) ∧
    (∀ {e : TypeId} {size n : Nat} {u : Value} {xs : List Value}, e ≠ 91 → RowF w F e size u n xs → RowF (w1.setCell ⟨g, i, none⟩ v) (More F w w1) e size u n xs) ∧
    (∀ {e : TypeId} {size n : Nat} {u : Value} {xs : List Value}, e ≠ 91 → w1.ownsRow w.heap.size e size u n xs → RowF (w1.setCell ⟨g, i, none⟩ v) (More F w w1) e size u n xs) := by
  have h1 := h.below hb
  have hO : OnlyF (fun k => k = g) w1 (w1.setCell ⟨g, i, none⟩ v) := (OnlyF.refl _ w1).grown (setCell_grown w1 g i _) (fun k e _ => by cases e; rfl)
  refine ⟨hO, (OnlyF.of_below hb).trans hO (fun k _ e => by subst e; exact h.own), h1.blk.set_ i v, fun he hr => ?_, fun he hr => ?_⟩
  · have hr1 := hr.keep (G := fun _ => False) (OnlyF.of_below hb) (fun _ _ h => h)
    exact ⟨hO.own hr1.1 (fun k hk hh => by subst hh; exact own_blk_ne hr1.1 h1.blk he hk), fun k hk => .inl (hr1.2 k hk)⟩
  · exact ⟨hO.own (own_base hr (Nat.zero_le _)) (fun k hk hh => by subst hh; exact own_blk_ne (own_base hr (Nat.zero_le _)) h1.blk he hk), fun k hk => .inr (hr.lt k hk)⟩
theorem RefV.size (h : RefV w F g R sv wv lv fv) (hb : Below w.heap.size w w1) (i : Nat) (v : Value) : ∀ k, More F w w1 k → k < (w1.setCell ⟨g, i, none⟩ v).heap.size := fun k hk => by
  have e : (w1.setCell ⟨g, i, none⟩ v).heap.size = w1.heap.size := by simp
  rw [e]
  exact hk.elim (fun h' => Nat.lt_of_lt_of_le (h.lt k h') hb.size) (fun h' => h'.2)
theorem more_wider (F : Nat → Prop) (w w1 : World) (g i : Nat) (v : Value) : Wider F (More F w w1) w (w1.setCell ⟨g, i, none⟩ v) := fun k hk => by
  have e : (w1.setCell ⟨g, i, none⟩ v).heap.size = w1.heap.size := by simp
  rw [e]; exact hk
theorem RefV.setSafe (h : RefV w F g R sv wv lv fv) (hb : Below w.heap.size w w1) {l : List Sec} (ho : w1.ownsRow w.heap.size 66 32 v l.length (l.flatMap cellsS)) :
    ∃ F', RefV (w1.setCell ⟨g, 0, none⟩ v) F' g { R with safe := l } v wv lv fv ∧ Wider F F' w (w1.setCell ⟨g, 0, none⟩ v) ∧ OnlyF F w (w1.setCell ⟨g, 0, none⟩ v) := by
  obtain ⟨h1, h2, h3, h4, h5⟩ := h.store hb 0 v
  exact ⟨More F w w1, ⟨by simpa [cellsR] using h3, .inl h.own, h.size hb 0 v, h5 (by decide) ho, h4 (by decide) h.wait, h4 (by decide) h.log, h4 (by decide) h.bad, fun e he => h4 (by decide) (h.tags e he)⟩, more_wider F w w1 g 0 v, h2⟩
theorem RefV.setWait (h : RefV w F g R sv wv lv fv) (hb : Below w.heap.size w w1) {l : List Wr} (ho : w1.ownsRow w.heap.size 108 36 v l.length (l.flatMap cellsW)) :
    ∃ F', RefV (w1.setCell ⟨g, 1, none⟩ v) F' g { R with wait := l } sv v lv fv ∧ Wider F F' w (w1.setCell ⟨g, 1, none⟩ v) ∧ OnlyF F w (w1.setCell ⟨g, 1, none⟩ v) := by
  obtain ⟨h1, h2, h3, h4, h5⟩ := h.store hb 1 v
  exact ⟨More F w w1, ⟨by simpa [cellsR] using h3, .inl h.own, h.size hb 1 v, h4 (by decide) h.safe, h5 (by decide) ho, h4 (by decide) h.log, h4 (by decide) h.bad, fun e he => h4 (by decide) (h.tags e he)⟩, more_wider F w w1 g 1 v, h2⟩
theorem RefV.setLog (h : RefV w F g R sv wv lv fv) (hb : Below w.heap.size w w1) {l : List Ev} (ho : w1.ownsRow w.heap.size 142 38 v l.length (l.flatMap cellsE)) (ht : ∀ e ∈ l, e ∈ R.log ∨ w1.ownsRow w.heap.size 69 2 e.v e.tags.length (e.tags.flatMap cellsT)) :
    ∃ F', RefV (w1.setCell ⟨g, 3, none⟩ v) F' g { R with log := l } sv wv v fv ∧ Wider F F' w (w1.setCell ⟨g, 3, none⟩ v) ∧ OnlyF F w (w1.setCell ⟨g, 3, none⟩ v) := by
  obtain ⟨h1, h2, h3, h4, h5⟩ := h.store hb 3 v
  exact ⟨More F w w1, ⟨by simpa [cellsR] using h3, .inl h.own, h.size hb 3 v, h4 (by decide) h.safe, h4 (by decide) h.wait, h5 (by decide) ho, h4 (by decide) h.bad, fun e he => (ht e he).elim (fun h' => h4 (by decide) (h.tags e h')) (fun h' => h5 (by decide) h')⟩, more_wider F w w1 g 3 v, h2⟩
theorem RefV.setBad (h : RefV w F g R sv wv lv fv) (hb : Below w.heap.size w w1) {l : List Int} (ho : w1.ownsRow w.heap.size 3 1 v l.length (iz l)) :
    ∃ F', RefV (w1.setCell ⟨g, 4, none⟩ v) F' g { R with bad := l } sv wv lv v ∧ Wider F F' w (w1.setCell ⟨g, 4, none⟩ v) ∧ OnlyF F w (w1.setCell ⟨g, 4, none⟩ v) := by
  obtain ⟨h1, h2, h3, h4, h5⟩ := h.store hb 4 v
  exact ⟨More F w w1, ⟨by simpa [cellsR] using h3, .inl h.own, h.size hb 4 v, h4 (by decide) h.safe, h4 (by decide) h.wait, h4 (by decide) h.log, h5 (by decide) ho, fun e he => h4 (by decide) (h.tags e he)⟩, more_wider F w w1 g 4 v, h2⟩
theorem RefV.set2 (h : RefV w F g R sv wv lv fv) (n : Nat) : RefV (w.setCell ⟨g, 2, none⟩ (.int .i64 (n : Nat))) F g { R with ep := n } sv wv lv fv ∧ OnlyF (fun k => k = g) w (w.setCell ⟨g, 2, none⟩ (.int .i64 (n : Nat))) := by
  have hO : OnlyF (fun k => k = g) w (w.setCell ⟨g, 2, none⟩ (.int .i64 (n : Nat))) := (OnlyF.refl _ w).grown (setCell_grown w g 2 _) (fun k e _ => by cases e; rfl)
  have hb := h.blk.set_ 2 (.int .i64 (n : Nat))
  have keepR : ∀ {e : TypeId} {size n : Nat} {v : Value} {xs : List Value} {W2 : World}, OnlyF (fun k => k = g) w W2 → e ≠ 91 → RowF w F e size v n xs → RowF W2 F e size v n xs := fun ho he hr => ⟨ho.own hr.1 (fun k hk hh => by subst hh; exact own_blk_ne hr.1 h.blk he hk), hr.2⟩
  exact ⟨⟨by simpa [cellsR] using hb, h.own, fun k hk => Nat.lt_of_lt_of_le (h.lt k hk) hO.size, keepR hO (by decide) h.safe, keepR hO (by decide) h.wait, keepR hO (by decide) h.log, keepR hO (by decide) h.bad, fun e he => keepR hO (by decide) (h.tags e he)⟩, hO⟩
end
set_option maxRecDepth 100000 in
set_option maxHeartbeats 1000000 in
theorem rhas_any (A : Option Addr) (c : Nat) (ts : List Tg) (t : Tg) (w : World) (hn : ts.length ≤ 1000) (hr : Reads w w.heap.size 2 A ts.length (ts.flatMap cellsT)) :
    Calls Try.prog 116 #[.slice A ts.length c, .agg (cellsT t).toArray] w fun o w' => o = .returned (.bool (decide (t ∈ ts))) ∧ Below w.heap.size w w' := by
  obtain ⟨w1, hw1⟩ : ∃ w1, w.alloc (.cells (cellsT t).toArray 69) = w1 := ⟨_, rfl⟩
  have hb1 : Below w.heap.size w w1 := by rw [← hw1]; exact (Below.refl _ w).alloc (Nat.le_refl _) _
  have hk1 : Blk w1 w.heap.size 69 (cellsT t).toArray := by rw [← hw1]; exact Blk.new w 69 _
  have HK := Lib.hid (range0 hk1)
  have HB := Lib.hid hb1
  obtain ⟨n, hnn⟩ : ∃ n, n = ts.length := ⟨_, rfl⟩
  have HN := Lib.hid hnn
  have HR := Lib.hid (hr.below hb1)
  obtain ⟨g3, hg3⟩ : ∃ g3, g3 = w.heap.size := ⟨_, rfl⟩
  rw [← hg3] at HK
  have HG3 := Lib.hid hg3
  rw [← hnn] at hn ⊢
  clear hr hnn hb1 hk1 hg3
  go_enter Try.func116, Try.ntmps116
  go_wp2_with fail
  rw [← HG3.out]
  clear hw1
  go_loopw [5] (fun i wr => ∃ k m : Nat, k ≤ n ∧ i = .int .i64 k ∧ Hid (¬ t ∈ ts.take k) ∧ wr = w1.drewN m) (fun i _ => n - (intOf i).toNat)
  case atStart => exact ⟨0, 0, by omega, rfl, Lib.hid (by simp), rfl⟩
  case round =>
    obtain ⟨k, m, hk, rfl, HA, rfl⟩ := hrel
    by_cases hlt : k < n
    · obtain ⟨y, hy⟩ : ∃ y, ts[k]? = some y := ⟨_, List.getElem?_eq_getElem (by rw [← HN.out]; exact hlt)⟩
      obtain ⟨b, o, rfl, hbb, hit⟩ := HR.out.item (f := cellsT) cellsT_len (by omega) (k := k) (by rw [← HN.out]; exact hlt)
      have HY := Lib.hid hy
      have HIT := Lib.hid (hit k y hy)
      have hl1 : (k : Int) < (n : Int) := by omega
      obtain ⟨q, hq⟩ : ∃ q, decide (y = t) = q := ⟨_, rfl⟩
      have HEQ : Hid (∀ W, (binOp .eql 69 (.agg (cellsT y).toArray) (.agg (cellsT t).toArray)).run Try.prog W = .ok (.bool q) W) := Lib.hid (fun W => by rw [eqlT, hq])
      have HQ := Lib.hid hq
      clear hy hit hbb hq
      go_wp2_with fail
      refine wp_region_quiet_lit (by kernel_rfl) (by kernel_rfl) ?_
      repeat (first | go_big_quiet_skip | (go_big_quiet_want; first
        | (with_reducible show Oper.quiet _ (Oper.mk (some 14) _ _ _ _ _) _ _ _; refine quiet_value (.pointer (some ⟨b, o + k * 2, none⟩)) (fun W _ => by go_simp) ?_; go_frame; go_big_quiet_on)
        | (with_reducible show Oper.quiet _ (Oper.mk (some 15) _ _ _ _ _) _ _ _; refine quiet_load_mid 69 (.tmp 14) rfl b (o + k * 2) rfl (cellsT y) _ (fun W hW => hW.elim fun j hj => by subst hj; exact range_drewN (range_drewN HIT.out)) Try.underlying69 rfl (by rw [cellsT_len]; exact info69) ?_; go_frame; go_big_quiet_on)
        | (with_reducible show Oper.quiet _ (Oper.mk (some 16) _ _ _ _ _) _ _ _; refine quiet_load_mid 69 (.tmp 3) rfl g3 0 rfl (cellsT t) _ (fun W hW => hW.elim fun j hj => by subst hj; exact range_drewN (range_drewN HK.out)) Try.underlying69 rfl (by rw [cellsT_len]; exact info69) ?_; go_frame; go_big_quiet_on)
        | (with_reducible show Oper.quiet _ (Oper.mk (some 17) _ _ _ _ _) _ _ _; refine quiet_bin .eql 69 69 _ _ rfl (.agg (cellsT y).toArray) (.agg (cellsT t).toArray) (.bool q) rfl rfl (fun W _ => guardT W _ _ _ _ _) (fun W _ => HEQ.out W) ?_; go_frame; go_big_quiet_on)
        | (go_big_quiet_op; go_big_quiet_on)))
      refine wpQuiet_nil ?_
      rintro _ ⟨nq, rfl⟩
      cases q with
      | true =>
        go_wp2_with fail
        go_ret
        have e := of_decide_eq_true HQ.out
        subst e
        exact ⟨by rw [decide_eq_true (List.mem_of_getElem? HY.out)]; rfl, below_drewN (below_drewN HB.out)⟩
      | false =>
        go_wp2_with fail
        refine ⟨⟨k + 1, m + nq, by omega, by go_num, Lib.hid ?_, rfl⟩, by simp [intOf]; omega⟩
        rw [List.take_add_one, HY.out, List.mem_append]
        have e := of_decide_eq_false HQ.out
        rintro (h | h)
        · exact HA.out h
        · have h' : t = y := by simpa using h
          exact e h'.symm
    · obtain rfl : k = n := by omega
      have hA := HA.out
      rw [List.take_of_length_le (by rw [← HN.out]; exact Nat.le_refl _)] at hA
      have HA2 := Lib.hid hA
      clear hA
      go_wp2_with fail
      go_ret
      exact ⟨by rw [decide_eq_false HA2.out]; rfl, below_drewN HB.out⟩
end Go.Proofs.Ytikhhipgamllgaa
namespace Go.Proofs.Ytikhhipgamllgaa
open Go.RowKit
def Rk.of (l : List Sec) : Rk := { safe := l, wait := [], ep := 0, log := [], bad := [], asked := 0 }
def Dk.of (l : List Sec) : Dk := { safe := l, wait := [], log := [], ep := 0, nx := 0, bad := none }
theorem mkR (A : Option Addr) (n c : Nat) (w : World) : (Instr.build 91 #[(0, .slice A n c)]).run Try.prog w = .ok (.agg #[.slice A n c, .slice none 0 0, .int .i64 0, .slice none 0 0, .slice none 0 0, .int .i64 0]) w := by kernel_rfl
def GotRef (w : World) (l : List Sec) (o : Ending) (w' : World) : Prop := ∃ b g, o = .returned (.tuple #[.pointer (some ⟨g, 0, none⟩), .int .i64 0]) ∧ RefV w' (fun k => k = g ∨ k = b) g (Rk.of l) (.slice (some ⟨b, 0, none⟩) l.length l.length) (.slice none 0 0) (.slice none 0 0) (.slice none 0 0) ∧ w.heap.size ≤ b ∧ w.heap.size ≤ g ∧ Below w.heap.size w w'
theorem rnew_bad (n : Int) (w : World) (h : n < 1 ∨ 65 < n) : Calls Try.prog 93 #[.int .i64 n] w fun o w' => o = .returned (.tuple #[.pointer none, .int .i64 1]) ∧ w' = w := by
  obtain ⟨b1, e1⟩ : ∃ b, decide (n < 1) = b := ⟨_, rfl⟩
  obtain ⟨b2, e2⟩ : ∃ b, decide (n > 65) = b := ⟨_, rfl⟩
  have hb : b1 = true ∨ b2 = true := by
    rcases h with h | h
    · left; rw [← e1]; simpa using h
    · right; rw [← e2]; simpa using h
  cases b1 <;> cases b2 <;> first | (rcases hb with hb | hb <;> cases hb; done) | skip
  all_goals
    clear hb h
    go_enter Try.func93, Try.ntmps93
    go_wp2
    go_ret2
    exact ⟨rfl, rfl⟩
theorem rnew_any (n : Nat) (h1 : 0 < n) (h2 : n ≤ 65) (w : World) : Calls Try.prog 93 #[.int .i64 n] w (GotRef w (List.replicate n zeroSec)) := by
  obtain ⟨w1, hw1⟩ : ∃ w1, w.alloc (.cells ((List.replicate n zeroSec).flatMap cellsS).toArray 66) = w1 := ⟨_, rfl⟩
  have hmk := make_secs n h1 (by omega) w
  rw [hw1] at hmk
  have hb1 : Below w.heap.size w w1 := by rw [← hw1]; exact (Below.refl _ w).alloc (Nat.le_refl _) _
  have hk1 : Blk w1 w.heap.size 66 ((List.replicate n zeroSec).flatMap cellsS).toArray := by rw [← hw1]; exact Blk.new w 66 _
  have hs1 : w1.heap.size = w.heap.size + 1 := by rw [← hw1]; simp
  have HB1 := Lib.hid hb1
  have HK1 := Lib.hid hk1
  have HS1 := Lib.hid hs1
  have d1 : decide ((n : Int) < 1) = false := by simp; omega
  have d2 : decide ((n : Int) > 65) = false := by simp; omega
  have hlen : ((List.replicate n zeroSec).flatMap cellsS).length = n * 32 := by rw [zeros_flat, List.length_replicate]
  have HLEN := Lib.hid hlen
  have H65 : Hid (n ≤ 65) := Lib.hid h2
  clear hb1 hk1 hw1 hs1 hlen h1 h2
  go_enter Try.func93, Try.ntmps93
  go_wp2_with (first
    | (with_reducible show wpList _ _ _ (Oper.mk _ (Op.makeSlice _ _ _) _ _ _ _ :: _) _ _; go_must (refine wpList_run rfl _ _ (run_mkSlice (L := .int .i64 n) (C := .int .i64 n) rfl rfl rfl hmk) ?_))
    | (with_reducible show wpList _ _ _ (Oper.mk _ (Op.build 91 _) _ _ _ _ :: _) _ _; go_must (refine wpList_run rfl _ _ (run_build1 (X := .slice (some ⟨w.heap.size, 0, none⟩) n n) rfl rfl (mkR (some ⟨w.heap.size, 0, none⟩) n n w1)) ?_)))
  go_ret2
  have hrow : w1.ownsRow 0 66 32 (.slice (some ⟨w.heap.size, 0, none⟩) n n) n ((List.replicate n zeroSec).flatMap cellsS) :=
    ⟨HLEN.out, .inr ⟨w.heap.size, n, _, rfl, Nat.zero_le _, HK1.out, Nat.le_refl _, by unfold maxLen; have := H65.out; omega, by simp [HLEN.out], by rw [List.take_of_length_le (by simp [HLEN.out])]⟩⟩
  unfold GotRef
  rw [List.length_replicate]
  refine ⟨w.heap.size, w1.heap.size, rfl, ⟨?_, .inl rfl, fun k hk => ?_, ?_, RowF.nil _ _ _ _, RowF.nil _ _ _ _, RowF.nil _ _ _ _, fun e he => by cases he⟩, Nat.le_refl _, HB1.out.size, HB1.out.alloc HB1.out.size _⟩
  · have := Blk.new w1 91 #[.slice (some ⟨w.heap.size, 0, none⟩) n n, .slice none 0 0, .int .i64 0, .slice none 0 0, .slice none 0 0, .int .i64 0]
    simpa [cellsR, Rk.of] using this
  · have := HS1.out
    simp
    rcases hk with rfl | rfl <;> omega
  · refine ⟨?_, fun k hk => .inr (by cases hk; rfl)⟩
    have := hrow.alloc (.cells #[.slice (some ⟨w.heap.size, 0, none⟩) n n, .slice none 0 0, .int .i64 0, .slice none 0 0, .slice none 0 0, .int .i64 0] 91)
    simpa [Rk.of] using this
theorem RefV.safeIn {w w2 : World} {F : Nat → Prop} {g : Nat} {R : Rk} {sv wv lv fv : Value} (h : RefV w F g R sv wv lv fv) {l : List Sec} (ho : w2.ownsRow 0 66 32 sv l.length (l.flatMap cellsS)) (hO : OnlyF (fun k => sv.ownBlock = some k) w w2) : RefV w2 F g { R with safe := l } sv wv lv fv := by
  have hr := h.safe.1
  have keepR : ∀ {e : TypeId} {size n : Nat} {v : Value} {xs : List Value}, e ≠ 66 → RowF w F e size v n xs → RowF w2 F e size v n xs := fun he hq => ⟨hO.own hq.1 (fun k hk hh => own_own_ne hq.1 hr he hk hh), hq.2⟩
  exact ⟨hO.blk h.blk (fun hh => own_blk_ne hr h.blk (by decide) hh), h.own, fun k hk => Nat.lt_of_lt_of_le (h.lt k hk) hO.size, ⟨ho, h.safe.2⟩, keepR (by decide) h.wait, keepR (by decide) h.log, keepR (by decide) h.bad, fun e he => keepR (by decide) (h.tags e he)⟩
theorem part_set (l : List Sec) (k n : Nat) (x : Sec) (hn : l.length = n) (hx : l[k]? = some x) : (l.take k ++ List.replicate (n - k) zeroSec).set k x = l.take (k + 1) ++ List.replicate (n - (k + 1)) zeroSec := by
  have hk : k < n := by rw [← hn]; exact (List.getElem?_eq_some_iff.1 hx).1
  have hl : (l.take k).length = k := by rw [List.length_take]; omega
  obtain ⟨r, hr⟩ : ∃ r, n - k = r + 1 := ⟨n - k - 1, by omega⟩
  rw [hr, show n - (k + 1) = r by omega, List.set_append, if_neg (by omega), hl, Nat.sub_self, List.replicate_succ, List.set_cons_zero, List.take_add_one, hx, List.append_assoc]
  rfl
theorem part_len (l : List Sec) (k n : Nat) (hn : l.length = n) (hk : k ≤ n) : (l.take k ++ List.replicate (n - k) zeroSec).length = n := by
  rw [List.length_append, List.length_take, List.length_replicate]; omega
set_option maxRecDepth 100000 in
set_option maxHeartbeats 4000000 in
theorem rfrom_any (A : Option Addr) (c : Nat) (l : List Sec) (h1 : 0 < l.length) (h2 : l.length ≤ 65) (w : World) (hr : Reads w w.heap.size 32 A l.length (l.flatMap cellsS)) : Calls Try.prog 52 #[.slice A l.length c] w (GotRef w l) := by
  obtain ⟨n, hnn⟩ : ∃ n, n = l.length := ⟨_, rfl⟩
  rw [← hnn] at h1 h2 ⊢
  have HN := Lib.hid hnn
  have HR := Lib.hid hr
  have CN := Lib.hid (rnew_any n h1 h2 w)
  clear hnn hr
  go_enter Try.func52, Try.ntmps52
  go_wp2_with fail
  refine CN.out.mono ?_
  rintro o w1 ⟨b, g, rfl, hR, hb0, hg0, hb1⟩
  rw [List.length_replicate] at hR
  have HRF := Lib.hid hR
  have HB1 := Lib.hid hb1
  have HB0 := Lib.hid hb0
  have HG0 := Lib.hid hg0
  clear hR hb0 hg0 hb1
  go_wp2_with fail
  go_loopw [6] (fun i wr => ∃ k : Nat, k ≤ n ∧ i = .int .i64 k ∧ Hid (RefV wr (fun k => k = g ∨ k = b) g (Rk.of (l.take k ++ List.replicate (n - k) zeroSec)) (.slice (some ⟨b, 0, none⟩) n n) (.slice none 0 0) (.slice none 0 0) (.slice none 0 0)) ∧ Hid (Below w.heap.size w wr)) (fun i _ => n - (intOf i).toNat)
  case atStart => exact ⟨0, by omega, rfl, Lib.hid (by simpa using HRF.out), HB1⟩
  case round =>
    obtain ⟨k, hk, rfl, HV, HB⟩ := hrel
    by_cases hlt : k < n
    · obtain ⟨x, hx⟩ : ∃ x, l[k]? = some x := ⟨_, List.getElem?_eq_getElem (by rw [← HN.out]; exact hlt)⟩
      obtain ⟨b2, o2, rfl, hbb, hit⟩ := (HR.out.below HB.out).item (f := cellsS) cellsS_len (by omega) (k := k) (by rw [← HN.out]; exact hlt)
      have HIT := Lib.hid (hit k x hx)
      have HLB : Hid (b2 < wr.heap.size) := Lib.hid (Nat.lt_of_lt_of_le hbb HB.out.size)
      have HX := Lib.hid hx
      have HC0 : Hid (wr.cell? ⟨g, 0, none⟩ = some (.slice (some ⟨b, 0, none⟩) n n)) := Lib.hid (HV.out.cell 0)
      have HGL : Hid (g < wr.heap.size) := Lib.hid (HV.out.lt g HV.out.own)
      have hl1 : (k : Int) < (n : Int) := by omega
      clear hx hbb hit
      go_wp2_with fail
      refine wp_region_quiet_tail (fun W => Below wr.heap.size wr W) 10 (by kernel_rfl) (by kernel_rfl) ((Below.refl _ wr).drew) ?_
      simp only [List.take_succ_cons, List.take_zero, List.drop_succ_cons, List.drop_zero]
      try go_frame
      repeat (first | go_big_quiet_skip | (go_big_quiet_want; first
        | (with_reducible show Oper.quiet _ (Oper.mk (some 23) _ _ _ _ _) _ _ _; refine quiet_value (.pointer (some ⟨g, 0, none⟩)) (fun W _ => Ph.run_nilCheck rfl rfl) ?_; go_frame; go_big_quiet_on)
        | (with_reducible show Oper.quiet _ (Oper.mk (some 24) _ _ _ _ _) _ _ _; refine quiet_value (.pointer (some ⟨g, 0, none⟩)) (fun W _ => by go_simp) ?_; go_frame; go_big_quiet_on)
        | (with_reducible show Oper.quiet _ (Oper.mk (some 25) _ _ _ _ _) _ _ _; refine quiet_load_one 40 (.tmp 24) rfl g 0 rfl (.slice (some ⟨b, 0, none⟩) n n) (fun W hW => ld40 ((hW.cell (p := ⟨g, 0, none⟩) HGL.out).trans HC0.out)) ?_; go_frame; go_big_quiet_on)
        | (with_reducible show Oper.quiet _ (Oper.mk (some 29) _ _ _ _ _) _ _ _; refine quiet_value (.pointer (some ⟨b2, o2 + k * 32, none⟩)) (fun W _ => by go_simp) ?_; go_frame; go_big_quiet_on)
        | (with_reducible show Oper.quiet _ (Oper.mk (some 30) _ _ _ _ _) _ _ _; refine quiet_load_mid 66 (.tmp 29) rfl b2 (o2 + k * 32) rfl (cellsS x) _ (fun W hW => rangeAt_below HIT.out hW HLB.out) Try.underlying66 rfl (by rw [cellsS_len]; exact info66) ?_; go_frame; go_big_quiet_on)
        | (with_reducible show Oper.quiet _ (Oper.mk (some 31) _ _ _ _ _) _ _ _; refine quiet_value (.pointer (some ⟨b, k * 32, none⟩)) (fun W _ => by go_simp) ?_; go_frame; go_big_quiet_on)
        | (go_big_quiet_op; go_big_quiet_on)))
      refine wpQuiet_nil ?_
      intro w2 hw2
      have hV2 := HV.out.below hw2
      have hrow := hV2.safe.1
      have hpl := part_len l k n HN.out.symm (by omega)
      have hrow2 : w2.ownsRow 0 66 32 (.slice (some ⟨b, 0, none⟩) n n) n ((l.take k ++ List.replicate (n - k) zeroSec).flatMap cellsS) := by
        have := hrow
        simp only [Rk.of] at this
        rwa [hpl] at this
      have HO2 := Lib.hid hrow2
      have HV2 := Lib.hid hV2
      have HB2 := Lib.hid (below_then HB.out hw2)
      have HPL := Lib.hid hpl
      have HFIT : Hid (k * 32 + (cellsS x).length ≤ n * 32) := Lib.hid (by rw [cellsS_len]; omega)
      have HKN : Hid (k < (l.take k ++ List.replicate (n - k) zeroSec).length) := Lib.hid (by rw [hpl]; exact hlt)
      clear hw2 hV2 hrow hrow2 hpl
      go_wp2_with (with_reducible show wpList _ _ _ (Oper.mk none (Op.store 66 _ _) _ _ _ _ :: _) _ _; go_must (refine wpList_store_own rfl 66 (.tmp 31) (.tmp 30) rfl HO2.out (k * 32) (cellsS x) rfl rfl HFIT.out (by rw [cellsS_len]; exact info66) (cellsS_one _) ?_; intro w3 ho3 hg3 hs3; have HO3 := Lib.hid ho3; have HG3 := Lib.hid hg3; clear ho3 hg3 hs3))
      refine ⟨⟨k + 1, by omega, by go_num, Lib.hid ?_, Lib.hid (HB2.out.grown HG3.out HB2.out.size (fun q hq => by cases hq; exact HB0.out))⟩, by simp [intOf]; omega⟩
      have ho3 := HO3.out
      rw [← cat_set cellsS 32 cellsS_len _ k x HKN.out, part_set l k n x HN.out.symm HX.out] at ho3
      have hlen : (l.take (k + 1) ++ List.replicate (n - (k + 1)) zeroSec).length = n := part_len l (k + 1) n HN.out.symm (by omega)
      exact HV2.out.safeIn (l := l.take (k + 1) ++ List.replicate (n - (k + 1)) zeroSec) (by rw [hlen]; exact ho3) ((OnlyF.refl _ _).grown HG3.out (fun q hq _ => hq))
    · obtain rfl : k = n := by omega
      go_wp2_with fail
      go_ret2
      have hv := HV.out
      rw [Nat.sub_self, List.replicate_zero, List.append_nil, List.take_of_length_le (by rw [HN.out]; exact Nat.le_refl _)] at hv
      exact ⟨b, g, rfl, by rw [← HN.out]; exact hv, HB0.out, HG0.out, HB.out⟩
theorem rfrom_bad (A : Option Addr) (n c : Nat) (w : World) (h : (n : Int) < 1 ∨ 65 < (n : Int)) : Calls Try.prog 52 #[.slice A n c] w fun o w' => o = .returned (.tuple #[.pointer none, .int .i64 1]) ∧ w' = w := by
  have CN := Lib.hid (rnew_bad (n : Int) w h)
  clear h
  go_enter Try.func52, Try.ntmps52
  go_wp2_with fail
  refine CN.out.mono ?_
  rintro o w1 ⟨rfl, e⟩
  obtain rfl := e.symm
  go_wp2_with fail
  go_ret2
  exact ⟨rfl, rfl⟩
/-! ### the program's From -/
theorem bfrom_bad (A : Option Addr) (n c : Nat) (w : World) (h : (n : Int) < 1 ∨ 65 < (n : Int)) : Calls Try.prog 51 #[.slice A n c] w fun o w' => o = .returned (.tuple #[.pointer none, .int .i64 1]) ∧ w' = w := by
  have CN := Lib.hid (new_bad (n : Int) w h)
  clear h
  go_enter Try.func51, Try.ntmps51
  go_wp2_with fail
  refine CN.out.mono ?_
  rintro o w1 ⟨rfl, e⟩
  obtain rfl := e.symm
  go_wp2_with fail
  go_ret2
  exact ⟨rfl, rfl⟩
theorem bfrom_any (A : Option Addr) (c : Nat) (l : List Sec) (h1 : 0 < l.length) (h2 : l.length ≤ 65) (w : World) (hr : Reads w w.heap.size 32 A l.length (l.flatMap cellsS)) : Calls Try.prog 51 #[.slice A l.length c] w (GotDisk w (Dk.of l)) := by
  obtain ⟨n, hnn⟩ : ∃ n, n = l.length := ⟨_, rfl⟩
  rw [← hnn] at h1 h2 ⊢
  have HN := Lib.hid hnn
  have HR := Lib.hid hr
  have CN := Lib.hid (new_any n h1 h2 w)
  have H65 : Hid (n ≤ 65) := Lib.hid h2
  clear hnn hr h1 h2
  go_enter Try.func51, Try.ntmps51
  go_wp2_with fail
  refine CN.out.mono ?_
  rintro o w1 ⟨g, F, rfl, _, _, hb1⟩
  have HB1 := Lib.hid hb1
  have CC : Hid (Calls Try.prog 80 #[.slice A n c] w1 (GotRow w1 66 32 n (l.flatMap cellsS))) := Lib.hid (by
    have := clone_secs A c l w1 (by rw [← HN.out]; have := H65.out; omega) ((HR.out.below hb1).more hb1.size)
    rw [← HN.out] at this
    exact this)
  clear hb1
  go_wp2_with fail
  refine CC.out.mono ?_
  rintro o w2 ⟨v, rfl, ho2, hb2⟩
  obtain ⟨A2, c2, rfl, _⟩ := own_slice ho2
  have HO2 := Lib.hid ho2
  have HB2 := Lib.hid (below_then HB1.out hb2)
  have HB12 : Hid (w.heap.size ≤ w1.heap.size) := Lib.hid HB1.out.size
  clear ho2 hb2
  go_wp2_with (with_reducible show wpList _ _ _ (Oper.mk _ (Op.build 139 _) _ _ _ _ :: _) _ _; go_must (refine wpList_run rfl _ _ (run_build1 (X := .slice A2 n c2) rfl rfl (mkD A2 n c2 w2)) ?_))
  go_ret2
  have hrow := own_base (base' := 0) HO2.out (Nat.zero_le _)
  have hr3 := hrow.alloc (.cells #[.map none, .int .i64 0, .slice A2 n c2, .slice none 0 0, .slice none 0 0, .int .i64 0] 139)
  refine ⟨w2.heap.size, fun k => k = w2.heap.size ∨ (Value.slice A2 n c2).ownBlock = some k, rfl, ⟨.map none, _, _, _, ⟨Blk.new w2 139 _, .inl rfl, fun k hk => ?_, rfl, ⟨by simpa [Dk.of, ← HN.out] using hr3, fun k hk => .inr hk⟩, RowF.nil _ _ _ _, RowF.nil _ _ _ _, fun e he => by cases he⟩⟩, fun k hk => ?_, HB2.out.alloc HB2.out.size _⟩
  · simp
    rcases hk with rfl | hk
    · omega
    · have := own_lt hrow hk; omega
  · rcases hk with rfl | hk
    · exact HB2.out.size
    · exact Nat.le_trans HB12.out (HO2.out.lt k hk).1
end Go.Proofs.Ytikhhipgamllgaa
namespace Go.Proofs.Ytikhhipgamllgaa
open Go.RowKit
theorem bld89_0 (w : World) : (Instr.buildSlice 89 0 #[]).run Try.prog w = .ok (.slice (some ⟨w.heap.size, 0, none⟩) 0 0) (w.alloc (.cells #[] 142)) := by kernel_rfl
def evB : Ev := ⟨3, zeroWr, [], none, 0⟩
def Rk.barrier (R : Rk) : Rk × Int := if R.fails then (R.next, 3) else ({ R.next with ep := R.ep + 1, log := R.log ++ [evB] }, 0)
/-- the events, and one more, in a row of one's own -/
theorem append_one {α : Type} {f : α → List Value} (l : List α) (x : α) : (l ++ [x]).flatMap f = l.flatMap f ++ f x := by
  rw [List.flatMap_append, List.flatMap_singleton]
theorem below_slot {a w w' : World} {B b n c : Nat} (h : Below B a w) (hg : w.grownBy w' (Value.slice (some ⟨b, 0, none⟩) n c).ownBlock) (hB : B ≤ w.heap.size) (hb : B ≤ b) : Below B a w' := h.grown hg hB (fun q hq => by cases hq; exact hb)
section
variable {w : World} {F : Nat → Prop} {g : Nat} {R : Rk} {sv wv lv fv : Value}
set_option maxRecDepth 100000 in
set_option maxHeartbeats 4000000 in
theorem rbarrier_any (h : RefV w F g R sv wv lv fv) (hn : R.asked ≤ 1000000) (hb : R.bad.length ≤ 100000) (he : R.ep ≤ 1000000) (hl : R.log.length ≤ 100000) :
    Calls Try.prog 96 #[.pointer (some ⟨g, 0, none⟩)] w fun o w' => o = .returned (.int .i64 R.barrier.2) ∧ RTurned w F g R.barrier.1 w' := by
  have CF := rfails_any h hn hb
  obtain ⟨f, hf⟩ : ∃ f, R.fails = f := ⟨_, rfl⟩
  rw [hf] at CF
  have HCF := Lib.hid CF
  have HRES : Hid (R.barrier = if f then (R.next, 3) else ({ R.next with ep := R.ep + 1, log := R.log ++ [evB] }, 0)) := Lib.hid (by unfold Rk.barrier; rw [hf])
  have HOWN := Lib.hid h.own
  have HLT := Lib.hid h.lt
  have HL := Lib.hid hl
  have HE := Lib.hid he
  clear CF hf h hn hb he hl
  cases f with
  | true =>
    go_enter Try.func96, Try.ntmps96
    go_wp2_with fail
    refine HCF.out.mono ?_
    rintro o w2 ⟨rfl, h2, ho2⟩
    have H2 := Lib.hid h2
    have HO2 := Lib.hid ho2
    clear h2 ho2
    go_wp2_with fail
    go_ret
    rw [HRES.out]
    exact ⟨rfl, F, ⟨_, _, _, _, H2.out⟩, Wider.refl _ _ _, HO2.out.mono (fun k hk => by subst hk; exact HOWN.out)⟩
  | false =>
    go_enter Try.func96, Try.ntmps96
    go_wp2_with fail
    refine HCF.out.mono ?_
    rintro o w2 ⟨rfl, h2, ho2⟩
    obtain ⟨A, c, rfl, _⟩ := own_slice h2.log.1
    have c2 : w2.cell? ⟨g, 2, none⟩ = some (.int .i64 (R.ep : Nat)) := h2.cell 2
    have f2 : w2.frozen? ⟨g, 2, none⟩ = false := h2.blk.frozen 2
    have hst := st3i (x := ((R.ep + 1 : Nat) : Int)) c2 f2
    obtain ⟨h3, ho3⟩ := h2.set2 (R.ep + 1)
    obtain ⟨w3, hw3⟩ : ∃ w3, w2.setCell ⟨g, 2, none⟩ (.int .i64 ((R.ep + 1 : Nat) : Int)) = w3 := ⟨_, rfl⟩
    rw [hw3] at h3 ho3 hst
    have hlen : R.next.log.length = R.log.length := rfl
    rw [hlen] at h2 h3
    have hr := Reads.of_own h3.log.1
    have c3 : w3.cell? ⟨g, 3, none⟩ = some (.slice A R.log.length c) := h3.cell 3
    have f3 : w3.frozen? ⟨g, 3, none⟩ = false := h3.blk.frozen 3
    obtain ⟨m, hm⟩ : ∃ m, m = R.ep := ⟨_, rfl⟩
    obtain ⟨n, hnn⟩ : ∃ n, n = R.log.length := ⟨_, rfl⟩
    have HM := Lib.hid hm
    have HN := Lib.hid hnn
    have HLN : Hid (n ≤ 100000) := Lib.hid (by rw [hnn]; exact HL.out)
    have hmm : m ≤ 1000000 := by rw [hm]; exact HE.out
    have HADD := Lib.hid (fun W => add3 hmm W)
    have H3 := Lib.hid h3
    have HR := Lib.hid hr
    have HO2 := Lib.hid ho2
    have HO3 := Lib.hid ho3
    rw [← hm] at hst c2
    rw [← hnn] at c3
    have HST := Lib.hid hst
    have HC3 := Lib.hid c3
    have HF3 := Lib.hid f3
    have HG3 : Hid (g < w3.heap.size) := Lib.hid (h3.lt g h3.own)
    obtain ⟨i142, z, hi, hz, hs, hby, hzs⟩ := row142'
    have HI := Lib.hid hi
    have HZ := Lib.hid hz
    have HS := Lib.hid hs
    have HBY := Lib.hid hby
    have HZS := Lib.hid hzs
    obtain ⟨w4, hw4⟩ : ∃ w4, w3.alloc (.cells #[] 142) = w4 := ⟨_, rfl⟩
    have hb4 : Below w3.heap.size w3 w4 := by rw [← hw4]; exact (Below.refl _ w3).alloc (Nat.le_refl _) _
    have hlit : w4.ownsRow w3.heap.size 142 38 (.slice (some ⟨w3.heap.size, 0, none⟩) 0 0) 0 [] := by rw [← hw4]; exact World.ownsRow_lit w3 #[] 0 (Nat.le_refl _) (by decide) (by simp)
    have hbl := bld89_0 w3
    rw [hw4] at hbl
    have HBL := Lib.hid hbl
    have HB4 := Lib.hid hb4
    have HLIT := Lib.hid hlit
    have HC4 : Hid (w4.cell? ⟨g, 3, none⟩ = some (.slice A n c)) := Lib.hid ((hb4.cell (p := ⟨g, 3, none⟩) HG3.out).trans c3)
    have HR4 : Hid (Reads w4 w3.heap.size 38 A n (R.log.flatMap cellsE)) := Lib.hid (by have := HR.out.below hb4; rw [hnn]; exact this)
    have HSZ : Hid (w3.heap.size ≤ w4.heap.size) := Lib.hid hb4.size
    clear h2 h3 ho2 ho3 hst hw3 hlen hr f2 f3 hm hnn hmm hi hz hs hby hzs c3 hw4 hb4 hlit hbl
    go_wp2_with (first
      | (with_reducible show wpList _ _ _ (Oper.mk (some 9) _ _ _ _ _ :: _) _ _; go_must (refine wpList_wrun rfl _ (Ph.run_bin (X := .int .i64 (m : Nat)) (Y := .int .i64 1) rfl rfl rfl rfl (HADD.out _)) ?_))
      | (with_reducible show wpList _ _ _ (Oper.mk none (Op.store 3 _ _) _ _ _ _ :: _) _ _; go_must (refine wpList_done rfl w3 (Ph.run_store (X := .pointer (some ⟨g, 2, none⟩)) (Y := .int .i64 ((m + 1 : Nat) : Int)) rfl rfl rfl HST.out) ?_))
      | (with_reducible show wpList _ _ _ (Oper.mk (some 13) _ _ _ _ _ :: _) _ _; go_must (refine wpList_wrun rfl _ (Ph.run_buildSlice (vs := #[]) rfl (by simp) HBL.out) ?_))
      | (with_reducible show wpList _ _ _ (Oper.mk (some 17) _ _ _ _ _ :: _) _ _; go_must (refine wpList_wrun rfl _ (Ph.run_load (X := .pointer (some ⟨g, 3, none⟩)) rfl rfl (ld89 HC4.out)) ?_))
      | (with_reducible show wpList _ _ _ (Oper.mk (some 18) _ _ _ _ _ :: _) _ _; go_must (refine wpList_append_any _ rfl (.tmp 13) (.tmp 17) 89 rfl w3.heap.size 142 i142 (.agg z) 38 96 Try.underlying89 HI.out HZ.out HS.out HBY.out HZS.out (by decide) (.slice (some ⟨w3.heap.size, 0, none⟩) 0 0) 0 [] rfl HLIT.out w3.heap.size A n c (R.log.flatMap cellsE) rfl HR4.out (evs_one _) (by unfold maxLen; have := HLN.out; omega) (by have := HLN.out; omega) HSZ.out ?_; intro v5 w5 hown5 hgrow5 _; rw [Nat.zero_add, List.nil_append] at hown5; have hb5 := below_slot HB4.out hgrow5 HSZ.out (Nat.le_refl _); obtain ⟨w6, hw6⟩ : ∃ w6, w5.alloc (.cells (cellsE evB).toArray 142) = w6 := ⟨_, rfl⟩; have hb6 : Below w5.heap.size w5 w6 := (by rw [← hw6]; exact (Below.refl _ w5).alloc (Nat.le_refl _) _); have hk6 : Blk w6 w5.heap.size 142 (cellsE evB).toArray := (by rw [← hw6]; exact Blk.new w5 142 _); have hbl2 := bldE evB w5; rw [hw6] at hbl2; have HBL2 := Lib.hid hbl2; have HO6 := Lib.hid (own_below hown5 hb6); have HB6 := Lib.hid (below_then hb5 hb6); have HR6 := Lib.hid (reads_blk (size := 38) (n := 1) hk6 (by rw [cellsE_len])); have HSZ6 := Lib.hid (Nat.le_trans hb5.size hb6.size); clear hown5 hgrow5 hb5 hw6 hb6 hk6 hbl2))
      | (with_reducible show wpList _ _ _ (Oper.mk (some 19) _ _ _ _ _ :: _) _ _; go_must (refine wpList_wrun rfl _ (run_build1 (X := .int .i64 3) (V := .agg (cellsE evB).toArray) rfl rfl (mkEb _)) ?_))
      | (with_reducible show wpList _ _ _ (Oper.mk (some 20) _ _ _ _ _ :: _) _ _; go_must (refine wpList_wrun rfl _ (run_bld1 (X := .agg (cellsE evB).toArray) rfl rfl HBL2.out) ?_))
      | (with_reducible show wpList _ _ _ (Oper.mk (some 21) _ _ _ _ _ :: _) _ _; go_must (refine wpList_append_any _ rfl (.tmp 18) (.tmp 20) 89 rfl w3.heap.size 142 i142 (.agg z) 38 96 Try.underlying89 HI.out HZ.out HS.out HBY.out HZS.out (by decide) v5 n (R.log.flatMap cellsE) rfl HO6.out w6.heap.size (some ⟨w5.heap.size, 0, none⟩) 1 1 (cellsE evB) rfl HR6.out (cellsE_one _) (by unfold maxLen; have := HLN.out; omega) (by have := HLN.out; omega) HSZ6.out ?_; intro v7 w7 hown7 hgrow7 _; obtain ⟨A7, c7, rfl, _⟩ := own_slice hown7; have hb7 := HB6.out.grown hgrow7 HSZ6.out (fun q hq => (HO6.out.lt q hq).1); have h7 := H3.out.below hb7; have hst7 := st89 (A := A7) (n := n + 1) (c := c7) (h7.cell 3) (h7.blk.frozen 3); obtain ⟨w8, hw8⟩ : ∃ w8, w7.setCell ⟨g, 3, none⟩ (.slice A7 (n + 1) c7) = w8 := ⟨_, rfl⟩; rw [hw8] at hst7; have HST7 := Lib.hid hst7; have HB7 := Lib.hid hb7; have HO7 := Lib.hid hown7; have HW8 := Lib.hid hw8; clear hown7 hgrow7 hb7 h7 hst7 hw8))
      | (with_reducible show wpList _ _ _ (Oper.mk none (Op.store 89 _ _) _ _ _ _ :: _) _ _; go_must (refine wpList_done rfl w8 (Ph.run_store (X := .pointer (some ⟨g, 3, none⟩)) (Y := .slice A7 (n + 1) c7) rfl rfl rfl HST7.out) ?_)))
    go_ret
    rw [HRES.out]
    have hlr : (R.next.log ++ [evB]).length = n + 1 := by rw [List.length_append, HN.out]; rfl
    obtain ⟨F', h8, hw8, ho8⟩ := H3.out.setLog HB7.out (v := .slice A7 (n + 1) c7) (l := R.log ++ [evB]) (by
      rw [append_one, show (R.log ++ [evB]).length = n + 1 from hlr]
      exact HO7.out) (fun e he => (List.mem_append.1 he).elim .inl (fun h => .inr (by
        have : e = evB := by simpa using h
        subst this
        exact World.ownsRow_nil _ _ _ _)))
    rw [HW8.out] at h8 hw8 ho8
    exact ⟨rfl, RTurned.trans (Wider.refl _ _ _) ((HO2.out.trans HO3.out (fun k _ h => h)).mono (fun k hk => by subst hk; exact HOWN.out)) ⟨F', ⟨_, _, _, _, h8⟩, hw8, ho8⟩⟩
end
end Go.Proofs.Ytikhhipgamllgaa
namespace Go.Proofs.Ytikhhipgamllgaa
open Go.RowKit
def Rk.fail (R : Rk) (l : List Int) : Rk := { R with bad := l, asked := 0 }
def Rk.read (R : Rk) (at_ : Int) : Sec × Int := if atIn at_ R.safe.length then ((lastAt R.wait at_).getD (R.safe.getD at_.toNat zeroSec), 0) else (zeroSec, 1)
theorem bld33_0 (w : World) : (Instr.buildSlice 33 0 #[]).run Try.prog w = .ok (.slice (some ⟨w.heap.size, 0, none⟩) 0 0) (w.alloc (.cells #[] 3)) := by kernel_rfl
theorem row3' : ∃ i : TypeInfo, Try.prog.info? 3 = some i ∧ i.zero = some (.int .i64 0) ∧ i.size = 1 ∧ i.bytes = 8 ∧ (Value.int .i64 0).cells.size = 1 := by
  have h := info3'
  cases hi : Try.prog.info? 3 with
  | none => rw [hi] at h; cases h
  | some i =>
    rw [hi] at h
    simp only [Option.map_some, Option.some.injEq, Prod.mk.injEq] at h
    exact ⟨i, rfl, h.1, h.2.1, h.2.2, rfl⟩
theorem iz_one (l : List Int) : ∀ u ∈ iz l, u.oneCell' = true := fun u hu => by
  unfold iz at hu
  obtain ⟨x, _, rfl⟩ := List.mem_map.1 hu
  rfl
theorem st33 {g : Nat} {W : World} {i : Nat} {u : Value} {A : Option Addr} {n c : Nat} (h : W.cell? ⟨g, i, none⟩ = some u) (hf : W.frozen? ⟨g, i, none⟩ = false) : (Instr.storeAt 33 (.pointer (some ⟨g, i, none⟩)) (.slice A n c)).run Try.prog W = .ok () (W.setCell ⟨g, i, none⟩ (.slice A n c)) := by go_simp
section
variable {w : World} {F : Nat → Prop} {g : Nat} {R : Rk} {sv wv lv fv : Value}
set_option maxRecDepth 100000 in
set_option maxHeartbeats 4000000 in
theorem rfail_any (h : RefV w F g R sv wv lv fv) (A : Option Addr) (c : Nat) (l : List Int) (hl : l.length ≤ 50000) (hr : Reads w w.heap.size 1 A l.length (iz l)) :
    Calls Try.prog 97 #[.pointer (some ⟨g, 0, none⟩), .slice A l.length c] w fun o w' => o = .returned (.tuple #[]) ∧ RTurned w F g (R.fail l) w' := by
  obtain ⟨n, hnn⟩ : ∃ n, n = l.length := ⟨_, rfl⟩
  have HN := Lib.hid hnn
  have HLN : Hid (n ≤ 50000) := Lib.hid (by rw [hnn]; exact hl)
  rw [← hnn]
  have H := Lib.hid h
  obtain ⟨w4, hw4⟩ : ∃ w4, w.alloc (.cells #[] 3) = w4 := ⟨_, rfl⟩
  have hb4 : Below w.heap.size w w4 := by rw [← hw4]; exact (Below.refl _ w).alloc (Nat.le_refl _) _
  have hlit : w4.ownsRow w.heap.size 3 1 (.slice (some ⟨w.heap.size, 0, none⟩) 0 0) 0 [] := by rw [← hw4]; exact World.ownsRow_lit w #[] 0 (Nat.le_refl _) (by decide) (by simp)
  have hbl := bld33_0 w
  rw [hw4] at hbl
  have HBL := Lib.hid hbl
  have HB4 := Lib.hid hb4
  have HLIT := Lib.hid hlit
  have HR4 : Hid (Reads w4 w.heap.size 1 A n (iz l)) := Lib.hid (by rw [hnn]; exact hr.below hb4)
  have HSZ : Hid (w.heap.size ≤ w4.heap.size) := Lib.hid hb4.size
  obtain ⟨i3, hi, hz, hs, hby, hzs⟩ := row3'
  have HI := Lib.hid hi
  have HZ := Lib.hid hz
  have HS := Lib.hid hs
  have HBY := Lib.hid hby
  have HZS := Lib.hid hzs
  clear hnn hl h hr hw4 hb4 hlit hbl hi hz hs hby hzs
  go_enter Try.func97, Try.ntmps97
  go_wp2_with (first
    | (with_reducible show wpList _ _ _ (Oper.mk (some 5) _ _ _ _ _ :: _) _ _; go_must (refine wpList_wrun rfl _ (Ph.run_buildSlice (vs := #[]) rfl (by simp) HBL.out) ?_))
    | (with_reducible show wpList _ _ _ (Oper.mk (some 7) _ _ _ _ _ :: _) _ _; go_must (refine wpList_append_any _ rfl (.tmp 5) (.tmp 6) 33 rfl w.heap.size 3 i3 (.int .i64 0) 1 8 Try.underlying33 HI.out HZ.out HS.out HBY.out HZS.out (by decide) (.slice (some ⟨w.heap.size, 0, none⟩) 0 0) 0 [] rfl HLIT.out w.heap.size A n c (iz l) rfl HR4.out (iz_one _) (by unfold maxLen; have := HLN.out; omega) (by have := HLN.out; omega) HSZ.out ?_; intro v5 w5 hown5 hgrow5 _; rw [Nat.zero_add, List.nil_append] at hown5; have hb5 := below_slot HB4.out hgrow5 HSZ.out (Nat.le_refl _); obtain ⟨A5, c5, rfl, _⟩ := own_slice hown5; have h5 := H.out.below hb5; have hst5 := st33 (A := A5) (n := n) (c := c5) (h5.cell 4) (h5.blk.frozen 4); rw [HN.out] at hown5; obtain ⟨F6, h6, hw6, ho6⟩ := H.out.setBad hb5 (l := l) (v := .slice A5 l.length c5) hown5; obtain ⟨w6, hww⟩ : ∃ w6, w5.setCell ⟨g, 4, none⟩ (.slice A5 n c5) = w6 := ⟨_, rfl⟩; rw [hww] at hst5; rw [← HN.out, hww] at h6 hw6 ho6; have HST5 := Lib.hid hst5; have HST6 := Lib.hid (st3i (x := ((0 : Nat) : Int)) (h6.cell 5) (h6.blk.frozen 5)); have H6 := Lib.hid h6; have HW6 := Lib.hid hw6; have HO6 := Lib.hid ho6; clear hown5 hgrow5 hb5 h5 hst5 h6 hw6 ho6 hww))
    | (with_reducible show wpList _ _ _ (Oper.mk none (Op.store 33 _ _) _ _ _ _ :: _) _ _; go_must (refine wpList_done rfl w6 (Ph.run_store (X := .pointer (some ⟨g, 4, none⟩)) (Y := .slice A5 n c5) rfl rfl rfl HST5.out) ?_))
    | (with_reducible show wpList _ _ _ (Oper.mk none (Op.store 3 _ _) _ _ _ _ :: _) _ _; go_must (refine wpList_done rfl (w6.setCell ⟨g, 5, none⟩ (.int .i64 ((0 : Nat) : Int))) (Ph.run_store (X := .pointer (some ⟨g, 5, none⟩)) (Y := .int .i64 ((0 : Nat) : Int)) rfl rfl rfl HST6.out) ?_)))
  go_end0
  obtain ⟨h7, ho7⟩ := H6.out.set5 0
  exact ⟨rfl, RTurned.trans HW6.out HO6.out ⟨F6, ⟨_, _, _, _, h7⟩, Wider.refl _ _ _, ho7.mono (fun k hk => by subst hk; exact H6.out.own)⟩⟩
end
theorem results_ct {P : Program} {fn : Func} {p q : Tmp} {ty : TypeId} (h : fn.results = #[.cell p ty, .tmp q]) (tmps : Array Value) (w : World) (g : Nat) (t : TypeId) (cs : Array Value) (d : TypeDesc) (v : Value)
    (hp : tmps.getD p undef = .pointer (some ⟨g, 0, none⟩)) (hq : tmps.getD q undef = v) (hg : Blk w g t cs)
    (hu : P.underlying ty = some d) (hd : (match d with | .struct _ | .array _ _ => true | _ => false) = true) (hi : (P.info? ty).map (·.size) = some cs.size) :
    (results fn tmps).run P w = .ok (.tuple #[.agg cs, v]) w := by
  have hp' : tmps[p]?.getD undef = .pointer (some ⟨g, 0, none⟩) := by simpa using hp
  have hq' : tmps[q]?.getD undef = v := by simpa using hq
  simp [results, h, hp', hq', asAddr, run_loadVar_row w g t ty cs (0, 0) d hg hu hd hi]
section
variable {w : World} {F : Nat → Prop} {g : Nat} {R : Rk} {sv wv lv fv : Value}
theorem rread_out (h : RefV w F g R sv wv lv fv) (at_ : Int) (hi : atIn at_ R.safe.length = false) : Calls Try.prog 98 #[.pointer (some ⟨g, 0, none⟩), .int .i64 at_] w (ReadTo w (zeroSec, 1)) := by
  obtain ⟨w1, hw1⟩ : ∃ w1, w.alloc (.cells (cellsS zeroSec).toArray 66) = w1 := ⟨_, rfl⟩
  have hb1 : Below w.heap.size w w1 := by rw [← hw1]; exact (Below.refl _ w).alloc (Nat.le_refl _) _
  have hk1 : Blk w1 w.heap.size 66 (cellsS zeroSec).toArray := by rw [← hw1]; exact Blk.new w 66 _
  obtain ⟨w2, hst, hk2, hg2, hs2⟩ := stBlk (ty := 66) hk1 (new := cellsS zeroSec) (by rw [List.size_toArray]) (by rw [cellsS_len]; exact info66) (cellsS_one _)
  obtain ⟨A, c, rfl, _⟩ := own_slice h.safe.1
  obtain ⟨n, hnn⟩ : ∃ n, n = R.safe.length := ⟨_, rfl⟩
  have c0 : w1.cell? ⟨g, 0, none⟩ = some (.slice A n c) := by rw [hnn]; exact (h.below hb1).cell 0
  rw [← hnn] at hi
  have hz := z66 w
  obtain ⟨s0, hs0⟩ : ∃ s, s = zeroSec := ⟨_, rfl⟩
  rw [← hs0] at hst hk2 hw1 hz ⊢
  have hm0 := mkS0
  rw [← hs0] at hm0
  have HST := Lib.hid hst
  have HK2 := Lib.hid hk2
  have HZ := Lib.hid hz
  have HM0 := Lib.hid hm0
  have HW1 := Lib.hid hw1
  have HB2 := Lib.hid (hb1.grown hg2 hb1.size (fun q hq => by cases hq; exact Nat.le_refl _))
  obtain ⟨b1, e1⟩ : ∃ b, decide (at_ < 0) = b := ⟨_, rfl⟩
  obtain ⟨b2, e2⟩ : ∃ b, decide (at_ ≥ (n : Int)) = b := ⟨_, rfl⟩
  have e2' : decide ((n : Int) ≤ at_) = b2 := e2
  have hb : b1 = true ∨ b2 = true := by
    by_cases h1 : at_ < 0
    · left; rw [← e1]; simpa using h1
    · right; rw [← e2]
      simp only [atIn, Bool.and_eq_false_iff, decide_eq_false_iff_not] at hi
      simp; omega
  clear hb1 hk1 hst hk2 hg2 hs2 h hz hm0 hs0 hi hnn hw1
  cases b1 <;> cases b2 <;> first | (rcases hb with hb | hb <;> cases hb; done) | skip
  all_goals
    clear hb
    go_enter Try.func98, Try.ntmps98
    go_wp2_with (first
      | (with_reducible show wpList _ _ _ (Oper.mk _ (Op.alloc 66) _ _ _ _ :: _) _ _; go_must (refine wpList_wrun (w' := w.alloc (.cells (cellsS s0).toArray 66)) rfl (.pointer (some ⟨w.heap.size, 0, none⟩)) (Ph.run_alloc (z := .agg (cellsS s0).toArray) rfl HZ.out) ?_; rw [HW1.out]))
      | (with_reducible show wpList _ _ _ (Oper.mk _ (Op.build 66 _) _ _ _ _ :: _) _ _; go_must (refine wpList_wrun rfl _ (run_build0 (V := .agg (cellsS s0).toArray) rfl (HM0.out _)) ?_))
      | (with_reducible show wpList _ _ _ (Oper.mk none (Op.store 66 _ _) _ _ _ _ :: _) _ _; go_must (refine wpList_done rfl w2 (Ph.run_store (X := .pointer (some ⟨w.heap.size, 0, none⟩)) (Y := .agg (cellsS s0).toArray) rfl rfl rfl HST.out) ?_)))
    exact bodyPost_ret (results_ct (P := Try.prog) rfl _ _ w.heap.size 66 _ _ (.int .i64 1) rfl rfl HK2.out Try.underlying66 rfl (by rw [List.size_toArray, cellsS_len]; exact info66)) rfl ⟨rfl, HB2.out⟩
set_option maxRecDepth 100000 in
set_option maxHeartbeats 4000000 in
theorem rread_in (h : RefV w F g R sv wv lv fv) (a : Nat) (hw : R.wait.length ≤ 1000) (hi : a < R.safe.length) : Calls Try.prog 98 #[.pointer (some ⟨g, 0, none⟩), .int .i64 (a : Nat)] w (ReadTo w ((lastAt R.wait a).getD (R.safe.getD a zeroSec), 0)) := by
  obtain ⟨w1, hw1⟩ : ∃ w1, w.alloc (.cells (cellsS zeroSec).toArray 66) = w1 := ⟨_, rfl⟩
  have hb1 : Below w.heap.size w w1 := by rw [← hw1]; exact (Below.refl _ w).alloc (Nat.le_refl _) _
  have hk1 : Blk w1 w.heap.size 66 (cellsS zeroSec).toArray := by rw [← hw1]; exact Blk.new w 66 _
  have hx : R.safe[a]? = some (R.safe.getD a zeroSec) := by rw [List.getD_eq_getElem?_getD, List.getElem?_eq_getElem hi]; rfl
  obtain ⟨x, hxx⟩ : ∃ x, x = R.safe.getD a zeroSec := ⟨_, rfl⟩
  rw [← hxx] at hx ⊢
  obtain ⟨b, c, rfl, hrx⟩ := row_item cellsS_len (h.below hb1).safe.1 hx rfl
  obtain ⟨w2, hw2, hk2, hb2, hst2⟩ := box_world w1 x zeroSec
  have h2 := (h.below hb1).below hb2
  obtain ⟨A1, c1, rfl, _⟩ := own_slice h.wait.1
  obtain ⟨n, hnn⟩ : ∃ n, n = R.wait.length := ⟨_, rfl⟩
  obtain ⟨q, hqq⟩ : ∃ q, q = R.safe.length := ⟨_, rfl⟩
  have HN := Lib.hid hnn
  have HQ := Lib.hid hqq
  obtain ⟨g4, hg4⟩ : ∃ g4, g4 = w.heap.size := ⟨_, rfl⟩
  obtain ⟨g6, hg6⟩ : ∃ g6, g6 = w1.heap.size := ⟨_, rfl⟩
  have h46 : g4 ≠ g6 := by rw [hg4, hg6]; have := hk1.lt; omega
  have HGE : Hid (w.heap.size ≤ g4 ∧ w.heap.size ≤ g6) := Lib.hid ⟨by omega, by rw [hg6]; exact hb1.size⟩
  have HFG : Hid (¬ F g4 ∧ ¬ F g6) := Lib.hid ⟨fun hf => by have := h.lt _ hf; omega, fun hf => by have := h.lt _ hf; have := hb1.size; omega⟩
  have HG4 := Lib.hid hg4
  have HG6 := Lib.hid hg6
  rw [← hqq] at hi
  rw [← hnn] at hw
  have c0 : w1.cell? ⟨g, 0, none⟩ = some (.slice (some ⟨b, 0, none⟩) q c) := by rw [hqq]; exact (h.below hb1).cell 0
  have hlt : (a : Int) < (q : Int) := by omega
  have hnl : (a : Int) ≥ 0 := by omega
  have d1 : decide ((a : Int) < 0) = false := by simp
  have d2 : decide ((a : Int) ≥ (q : Int)) = false := by simp; omega
  have d3 : decide ((q : Int) ≤ (a : Int)) = false := by simp; omega
  obtain ⟨s0, hs0⟩ : ∃ s, s = zeroSec := ⟨_, rfl⟩
  have hz := z66
  rw [← hs0] at hz hw1 hk1 hst2
  rw [← hg4] at hk1
  rw [← hg6] at hk2 hst2
  have HZ := Lib.hid hz
  have HW1 := Lib.hid hw1
  have HRX := Lib.hid hrx
  have HST2 := Lib.hid hst2
  have HK42 := Lib.hid (hk1.below hb2 hk1.lt)
  have HK2 := Lib.hid hk2
  have H2 := Lib.hid h2
  have HB2 := Lib.hid (below_then hb1 hb2)
  have H46 := Lib.hid h46
  clear h hb1 hk1 hx hxx hrx hw2 hk2 hb2 hst2 h2 hnn hqq hg4 hg6 h46 hz hw1 hs0
  go_enter Try.func98, Try.ntmps98
  go_wp2_with (first
    | (with_reducible show wpList _ _ _ (Oper.mk (some 4) (Op.alloc 66) _ _ _ _ :: _) _ _; go_must (refine wpList_wrun (w' := w.alloc (.cells (cellsS s0).toArray 66)) rfl (.pointer (some ⟨w.heap.size, 0, none⟩)) (Ph.run_alloc (z := .agg (cellsS s0).toArray) rfl (HZ.out _)) ?_; rw [HW1.out, ← HG4.out]))
    | (with_reducible show wpList _ _ _ (Oper.mk (some 6) (Op.alloc 66) _ _ _ _ :: _) _ _; go_must (refine wpList_wrun (w' := w1.alloc (.cells (cellsS s0).toArray 66)) rfl (.pointer (some ⟨w1.heap.size, 0, none⟩)) (Ph.run_alloc (z := .agg (cellsS s0).toArray) rfl (HZ.out _)) ?_; rw [← HG6.out]))
    | (with_reducible show wpList _ _ _ (Oper.mk (some 26) (Op.load 66 _) _ _ _ _ :: _) _ _; go_must (refine wpList_wrun rfl _ (Ph.run_load (X := .pointer (some ⟨b, a * 32, none⟩)) rfl rfl (ldSm HRX.out)) ?_))
    | (with_reducible show wpList _ _ _ (Oper.mk none (Op.store 66 _ _) _ _ _ _ :: _) _ _; go_must (refine wpList_done rfl w2 (Ph.run_store (X := .pointer (some ⟨g6, 0, none⟩)) (Y := .agg (cellsS x).toArray) rfl rfl rfl HST2.out) ?_)))
  clear c0
  go_loopw [7] (fun i wr => ∃ k : Nat, k ≤ n ∧ i = .int .i64 k ∧ Hid (Blk wr g6 66 (cellsS ((lastAt (R.wait.take k) a).getD x)).toArray) ∧ Hid (Blk wr g4 66 (cellsS s0).toArray) ∧ Hid (RefV wr F g R (.slice (some ⟨b, 0, none⟩) R.safe.length c) (.slice A1 R.wait.length c1) lv fv) ∧ Hid (Below w.heap.size w wr)) (fun i _ => n - (intOf i).toNat)
  case atStart => exact ⟨0, by omega, rfl, HK2, HK42, H2, HB2⟩
  case round =>
    obtain ⟨k, hk, rfl, HK6, HK4, HV, HB⟩ := hrel
    have cw : wr.cell? ⟨g, 1, none⟩ = some (.slice A1 n c1) := by rw [HN.out]; exact HV.out.cell 1
    by_cases hlt2 : k < n
    · obtain ⟨y, hy⟩ : ∃ y, R.wait[k]? = some y := ⟨_, List.getElem?_eq_getElem (by rw [← HN.out]; exact hlt2)⟩
      obtain ⟨bw, cw', hvw, hrw⟩ := row_item cellsW_len HV.out.wait.1 hy rfl
      obtain ⟨rfl, rfl⟩ : A1 = some ⟨bw, 0, none⟩ ∧ c1 = cw' := by simpa using hvw
      have cat : wr.cell? ⟨bw, k * 36, none⟩ = some (.int .i64 y.at_) := hrw 0 _ (cellsW_at y)
      have HRS := Lib.hid (rangeAt_part hrw 1 _ (cellsW_s y))
      have HSTEP : Hid (lastAt (R.wait.take (k + 1)) a = if y.at_ = (a : Int) then some y.s else lastAt (R.wait.take k) a) := Lib.hid (by rw [List.take_add_one, hy, Option.toList_some, lastAt_add])
      have hl1 : (k : Int) < (n : Int) := by omega
      clear hy hvw hrw
      by_cases e : y.at_ = (a : Int)
      · rw [e] at cat
        obtain ⟨w3, hst3, hk3, hg3, hs3⟩ := stBlk (ty := 66) HK6.out (new := cellsS y.s) (by rw [List.size_toArray, cellsS_len, cellsS_len]) (by rw [cellsS_len]; exact info66) (cellsS_one _)
        have hO3 : OnlyF (fun q => q = g6) wr w3 := (OnlyF.refl _ _).grown hg3 (fun q hq _ => by cases hq; rfl)
        have HST3 := Lib.hid hst3
        have HK3 : Hid (Blk w3 g6 66 (cellsS ((lastAt (R.wait.take (k + 1)) a).getD x)).toArray) := Lib.hid (by rw [HSTEP.out, if_pos e]; exact hk3)
        have HK43 := Lib.hid (hO3.blk HK4.out (fun e => H46.out e))
        have HV3 := Lib.hid (HV.out.keep hO3 (fun q hq e => HFG.out.2 (by rw [← e]; exact hq)))
        have HB3 := Lib.hid (HB.out.grown hg3 HB.out.size (fun q hq => by cases hq; exact HGE.out.2))
        have e1 : ((a : Int) == (a : Int)) = true := by simp
        clear e hst3 hk3 hg3 hs3 hO3
        go_wp2_with (first
          | (with_reducible show wpList _ _ _ (Oper.mk (some 53) (Op.load 66 _) _ _ _ _ :: _) _ _; go_must (refine wpList_wrun rfl _ (Ph.run_load (X := .pointer (some ⟨bw, k * 36 + 1, none⟩)) rfl rfl (ldSm HRS.out)) ?_))
          | (with_reducible show wpList _ _ _ (Oper.mk none (Op.store 66 _ _) _ _ _ _ :: _) _ _; go_must (refine wpList_done rfl w3 (Ph.run_store (X := .pointer (some ⟨g6, 0, none⟩)) (Y := .agg (cellsS y.s).toArray) rfl rfl rfl HST3.out) ?_)))
        exact ⟨⟨k + 1, by omega, by go_num, HK3, HK43, HV3, HB3⟩, by simp [intOf]; omega⟩
      · have HK3 : Hid (Blk wr g6 66 (cellsS ((lastAt (R.wait.take (k + 1)) a).getD x)).toArray) := Lib.hid (by rw [HSTEP.out, if_neg e]; exact HK6.out)
        have e1 : (y.at_ == (a : Int)) = false := by simpa using e
        have e2 : (y.at_ = (a : Int)) = False := eq_false e
        clear e
        go_wp2_with fail
        exact ⟨⟨k + 1, by omega, by go_num, HK3, HK4, HV, HB⟩, by simp [intOf]; omega⟩
    · obtain rfl : k = n := by omega
      have hk6 := HK6.out
      rw [List.take_of_length_le (by rw [HN.out]; exact Nat.le_refl _)] at hk6
      obtain ⟨sf, hsf⟩ : ∃ s, s = (lastAt R.wait a).getD x := ⟨_, rfl⟩
      rw [← hsf] at hk6
      have HSF := Lib.hid hsf
      obtain ⟨w3, hst3, hk3, hg3, hs3⟩ := stBlk (ty := 66) HK4.out (new := cellsS sf) (by rw [List.size_toArray, cellsS_len, cellsS_len]) (by rw [cellsS_len]; exact info66) (cellsS_one _)
      have HST3 := Lib.hid hst3
      have HK3 := Lib.hid hk3
      have HK6 := Lib.hid hk6
      have HB3 := Lib.hid (HB.out.grown hg3 HB.out.size (fun q hq => by cases hq; exact HGE.out.1))
      clear hk6 hsf hst3 hk3 hg3 hs3
      go_wp2_with (first
        | (with_reducible show wpList _ _ _ (Oper.mk (some 54) (Op.load 66 _) _ _ _ _ :: _) _ _; go_must (refine wpList_wrun rfl _ (Ph.run_load (X := .pointer (some ⟨g6, 0, none⟩)) rfl rfl (ldS HK6.out)) ?_))
        | (with_reducible show wpList _ _ _ (Oper.mk none (Op.store 66 _ _) _ _ _ _ :: _) _ _; go_must (refine wpList_done rfl w3 (Ph.run_store (X := .pointer (some ⟨g4, 0, none⟩)) (Y := .agg (cellsS sf).toArray) rfl rfl rfl HST3.out) ?_)))
      exact bodyPost_ret (results_ct (P := Try.prog) rfl _ _ g4 66 _ _ (.int .i64 0) rfl rfl HK3.out Try.underlying66 rfl (by rw [List.size_toArray, cellsS_len]; exact info66)) rfl ⟨by rw [HSF.out], HB3.out⟩
theorem rread_any (h : RefV w F g R sv wv lv fv) (at_ : Int) (hw : R.wait.length ≤ 1000) : Calls Try.prog 98 #[.pointer (some ⟨g, 0, none⟩), .int .i64 at_] w (ReadTo w (R.read at_)) := by
  unfold Rk.read
  cases hi : atIn at_ R.safe.length with
  | false => rw [if_neg (by decide)]; exact rread_out h at_ hi
  | true =>
    rw [if_pos rfl]
    have hi2 : 0 ≤ at_ ∧ at_ < R.safe.length := by simpa [atIn] using hi
    obtain ⟨a, rfl⟩ : ∃ a : Nat, at_ = a := ⟨at_.toNat, by omega⟩
    exact rread_in h a hw (by omega)
end
end Go.Proofs.Ytikhhipgamllgaa
namespace Go.Proofs.Ytikhhipgamllgaa
open Go.RowKit
def SetTo (w : World) (l1 : List Sec) (l2 : List Wr) (o : Ending) (w' : World) : Prop := ∃ v1 v2, o = .returned (.tuple #[v1, v2]) ∧ w'.ownsRow w.heap.size 66 32 v1 l1.length (l1.flatMap cellsS) ∧ w'.ownsRow w.heap.size 108 36 v2 l2.length (l2.flatMap cellsW) ∧ Below w.heap.size w w'
theorem own_some {w : World} {base : Nat} {e : TypeId} {size n : Nat} {v : Value} {xs : List Value} (h : w.ownsRow base e size v n xs) (hn : 0 < n) : ∃ b c, v = .slice (some ⟨b, 0, none⟩) n c := by
  rcases h.2 with ⟨_, h0⟩ | ⟨b, c, cur, rfl, _⟩
  · omega
  · exact ⟨b, c, rfl⟩
theorem bld40_0 (w : World) : (Instr.buildSlice 40 0 #[]).run Try.prog w = .ok (.slice (some ⟨w.heap.size, 0, none⟩) 0 0) (w.alloc (.cells #[] 66)) := by kernel_rfl
theorem gtrI (W : World) (x y : Int) : (binOp .gtr 3 (.int .i64 x) (.int .i64 y)).run Try.prog W = .ok (.bool (decide (y < x))) W := by go_simp
theorem lssI (W : World) (x y : Int) : (binOp .lss 3 (.int .i64 x) (.int .i64 y)).run Try.prog W = .ok (.bool (decide (x < y))) W := by go_simp
/-- a list of Bools, some told, the rest false -/
def mbL (ws : List Wr) (mk : Wr → Bool) (n k : Nat) : List Value := ((ws.take k).map (fun x => Value.bool (mk x))) ++ List.replicate (n - k) (.bool false)
theorem mbL_len (ws : List Wr) (mk : Wr → Bool) {n k : Nat} (hn : ws.length = n) (hk : k ≤ n) : (mbL ws mk n k).length = n := by
  unfold mbL
  rw [List.length_append, List.length_map, List.length_take, List.length_replicate]; omega
theorem mbL_set {ws : List Wr} {mk : Wr → Bool} {n k : Nat} {x : Wr} (hn : ws.length = n) (hx : ws[k]? = some x) : (mbL ws mk n k).set k (.bool (mk x)) = mbL ws mk n (k + 1) := by
  have hk : k < n := by rw [← hn]; exact (List.getElem?_eq_some_iff.1 hx).1
  have hl : ((ws.take k).map (fun x => Value.bool (mk x))).length = k := by rw [List.length_map, List.length_take]; omega
  obtain ⟨r, hr⟩ : ∃ r, n - k = r + 1 := ⟨n - k - 1, by omega⟩
  unfold mbL
  rw [hr, show n - (k + 1) = r by omega, List.set_append, if_neg (by omega), hl, Nat.sub_self, List.replicate_succ, List.set_cons_zero, List.take_add_one, hx, List.map_append, List.append_assoc]
  rfl
theorem mbL_get {ws : List Wr} {mk : Wr → Bool} {n i : Nat} {x : Wr} (hx : ws[i]? = some x) : (mbL ws mk n n)[i]? = some (.bool (mk x)) ∨ n ≤ i := by
  by_cases h : n ≤ i
  · exact .inr h
  · left
    unfold mbL
    rw [Nat.sub_self, List.replicate_zero, List.append_nil, List.getElem?_map, List.getElem?_take, if_pos (by omega), hx]; rfl
theorem mbL_at {ws : List Wr} {mk : Wr → Bool} {n k i : Nat} {x : Wr} (hx : ws[i]? = some x) (hi : i < k) : (mbL ws mk n k)[i]? = some (.bool (mk x)) := by
  have hil := (List.getElem?_eq_some_iff.1 hx).1
  unfold mbL
  rw [List.getElem?_append_left (by rw [List.length_map, List.length_take]; omega), List.getElem?_map, List.getElem?_take, if_pos hi, hx]; rfl
theorem info4 : (Try.prog.info? 4).map (fun i => (i.zero, i.size, i.bytes)) = some (some (.bool false), 1, 1) := by kernel_rfl
theorem make_bools (n : Nat) (h2 : n ≤ 100000) (w : World) (ws : List Wr) (mk : Wr → Bool) : (Instr.makeSlice 171 (.int .i64 n) (.int .i64 n)).run Try.prog w = .ok (.slice (some ⟨w.heap.size, 0, none⟩) n n) (w.alloc (.cells (mbL ws mk n 0).toArray 4)) := by
  have h := info4
  cases hi : Try.prog.info? 4 with
  | none => rw [hi] at h; cases h
  | some i =>
    rw [hi] at h
    simp only [Option.map_some, Option.some.injEq, Prod.mk.injEq] at h
    have hr := run_make (P := Try.prog) w 171 4 i (.bool false) Try.underlying171 hi h.1 .i64 .i64 n n (by omega) (Int.le_refl _) (by rw [h.2.2]; omega) (by omega)
    rw [h.2.1] at hr
    simp only [Int.toNat_natCast, Nat.mul_one] at hr
    rw [hr]
    have e : madeCells (Value.bool false).cells n = (mbL ws mk n 0).toArray := by
      unfold mbL madeCells
      apply Array.ext
      · simp
      · intro j h3 h4
        simp [Value.cells, Nat.mod_one]
    rw [e]
theorem st4b {g : Nat} {W : World} {i : Nat} {u : Value} {b : Bool} (h : W.cell? ⟨g, i, none⟩ = some u) (hf : W.frozen? ⟨g, i, none⟩ = false) : (Instr.storeAt 4 (.pointer (some ⟨g, i, none⟩)) (.bool b)).run Try.prog W = .ok () (W.setCell ⟨g, i, none⟩ (.bool b)) := by go_simp
theorem set_list {w : World} {g : Nat} {t : TypeId} {l : List Value} (h : Blk w g t l.toArray) (i : Nat) (u : Value) : Blk (w.setCell ⟨g, i, none⟩ u) g t (l.set i u).toArray := by
  have := h.set_ i u
  simpa using this
/-- does a later write that is made have the sector, of those ahead of j? -/
def anyB (ws : List Wr) (mk : Wr → Bool) (a : Int) (k j : Nat) : Bool := ((ws.take j).drop (k + 1)).any (fun y => mk y && decide (y.at_ = a))
theorem anyB_step {ws : List Wr} {mk : Wr → Bool} {a : Int} {k j : Nat} {y : Wr} (hj : k + 1 ≤ j) (hy : ws[j]? = some y) : anyB ws mk a k (j + 1) = (anyB ws mk a k j || (mk y && decide (y.at_ = a))) := by
  have hl := (List.getElem?_eq_some_iff.1 hy).1
  unfold anyB
  rw [List.take_add_one, hy, Option.toList_some, List.drop_append_of_le_length (by rw [List.length_take]; omega), List.any_append]
  simp
theorem anyB_start (ws : List Wr) (mk : Wr → Bool) (a : Int) (k : Nat) : anyB ws mk a k (k + 1) = false := by
  unfold anyB
  rw [List.drop_of_length_le (by rw [List.length_take]; omega)]
  rfl
theorem keepB_eq {ws : List Wr} {mk : Wr → Bool} {k n : Nat} {x : Wr} (hn : ws.length = n) : keepB mk (lastN ws mk n) k x = (!mk x && !anyB ws mk x.at_ k n) := by
  subst hn
  unfold keepB anyB
  rw [List.take_length]
  congr 2
  cases hL : lastN ws mk ws.length x.at_ with
  | none =>
    have h := lastN_none hL
    rw [Option.isSome_none, Bool.false_and, eq_comm, List.any_eq_false]
    intro y hy
    obtain ⟨j, hj, rfl⟩ := List.getElem_of_mem hy
    rw [List.getElem_drop]
    have hlt : k + 1 + j < ws.length := by rw [List.length_drop] at hj; omega
    intro hh
    obtain ⟨h1, h2⟩ := (Bool.and_eq_true _ _).mp hh
    have h3 := h (k + 1 + j) hlt _ (List.getElem?_eq_getElem hlt) (of_decide_eq_true h2)
    rw [h1] at h3; cases h3
  | some m =>
    obtain ⟨hm, ⟨z, hz, hza, hzm⟩, hf⟩ := lastN_some hL
    rw [Option.isSome_some, Bool.true_and, Option.getD_some]
    by_cases hk : k < m
    · rw [decide_eq_true hk, eq_comm, List.any_eq_true]
      refine ⟨z, ?_, by rw [hzm, decide_eq_true hza]; rfl⟩
      refine List.mem_of_getElem? (i := m - (k + 1)) ?_
      rw [List.getElem?_drop, show k + 1 + (m - (k + 1)) = m by omega]; exact hz
    · rw [decide_eq_false hk, eq_comm, List.any_eq_false]
      intro y hy
      obtain ⟨j, hj, rfl⟩ := List.getElem_of_mem hy
      rw [List.getElem_drop]
      have hlt : k + 1 + j < ws.length := by rw [List.length_drop] at hj; omega
      intro hh
      obtain ⟨h1, h2⟩ := (Bool.and_eq_true _ _).mp hh
      have h3 := hf (k + 1 + j) (by omega) hlt _ (List.getElem?_eq_getElem hlt) (of_decide_eq_true h2)
      rw [h1] at h3; cases h3
end Go.Proofs.Ytikhhipgamllgaa
