/- (*Disk).Write. Conditions: in each theorem. -/
/- Printed by our own program (wip/rb/mk_disk.py). -/
import Derived.Test.YtikhhipgamllgaaNote
namespace Go.Proofs.Ytikhhipgamllgaa
open Go.RowKit Ph
set_option linter.unusedVariables false
def writeA0 (g B B6 B7 : Nat) (D1 : Dk) (at_ : Int) (s : Sec) (t : Tg) : Lvs :=
  [eqv (.int .i64 at_),
   eqv (.agg (cellsS s).toArray),
   eqv (.agg (cellsT t).toArray),
   eqv (.pointer (some ⟨g, 0, none⟩)),
   eqv (.pointer (some ⟨g, 0, none⟩)),
   eqv (.pointer (some ⟨g, 5, none⟩)),
   eqv (.int .i64 D1.ep),
   eqv (.agg (cellsW (D1.wr at_ s t)).toArray),
   fun v w => ∃ b, v = .pointer (some ⟨b, 0, none⟩) ∧ B ≤ b ∧ Blk w b 108 (cellsW zeroWr).toArray,
   fun _ _ => False]
def writeA1 (g B B6 B7 : Nat) (D1 : Dk) (at_ : Int) (s : Sec) (t : Tg) : Lvs :=
  [eqv (.int .i64 at_),
   eqv (.agg (cellsS s).toArray),
   eqv (.agg (cellsT t).toArray),
   eqv (.pointer (some ⟨g, 0, none⟩)),
   eqv (.pointer (some ⟨g, 0, none⟩)),
   eqv (.pointer (some ⟨g, 5, none⟩)),
   eqv (.int .i64 D1.ep),
   eqv (.agg (cellsW (D1.wr at_ s t)).toArray),
   fun _ _ => True,
   fun _ _ => True]
theorem writeA_keep (g B B6 B7 : Nat) (D1 : Dk) (at_ : Int) (s : Sec) (t : Tg) : ∀ L ∈ [writeA0 g B B6 B7 D1 at_ s t, writeA1 g B B6 B7 D1 at_ s t], ∀ q ∈ L, Keeps (fun W W' => Below W.heap.size W W') q := by
  simp only [writeA0, writeA1, List.forall_mem_cons]
  refine ⟨?_, ?_, by simp⟩
  all_goals
    repeat (first | refine ⟨keep_eqv _ _, ?_⟩ | refine ⟨keep_pure _ _, ?_⟩ | refine ⟨keep_one _ _ _, ?_⟩ | refine ⟨keep_row _ _ _ _ _ _, ?_⟩ | refine ⟨keep_at _ _ _, ?_⟩)
    simp
theorem writeA_turns (g B B6 B7 : Nat) (D1 : Dk) (at_ : Int) (s : Sec) (t : Tg) : TurnsAll [writeA0 g B B6 B7 D1 at_ s t, writeA1 g B B6 B7 D1 at_ s t] := by
  simp only [writeA0, writeA1, TurnsAll, Turns]
  refine ⟨?_, trivial⟩
  all_goals
    repeat (first | refine ⟨turn_eqv _, ?_⟩ | refine ⟨turn_true _, ?_⟩ | refine ⟨turn_false _, ?_⟩ | refine ⟨turn_pure _, ?_⟩)
    trivial
def writeB0 (g n c B : Nat) (A : Option Addr) (D1 : Dk) (at_ : Int) (s : Sec) (t : Tg) (xs : List Value) (Rd : Nat → Prop) : Lvs :=
  [eqv (.pointer (some ⟨g, 0, none⟩)),
   eqv (.pointer (some ⟨g, 0, none⟩)),
   eqv (.pointer (some ⟨g, 0, none⟩)),
   eqv (.pointer (some ⟨g, 3, none⟩)),
   eqv (.slice A n c),
   eqv (.agg (cellsW (D1.wr at_ s t)).toArray),
   fun v w => ∃ b, v = .slice (some ⟨b, 0, none⟩) 1 1 ∧ Blk w b 108 (cellsW (D1.wr at_ s t)).toArray,
   fun _ _ => False,
   fun _ _ => False,
   fun _ _ => False,
   fun _ _ => False]
def writeB1 (g n c B : Nat) (A : Option Addr) (D1 : Dk) (at_ : Int) (s : Sec) (t : Tg) (xs : List Value) (Rd : Nat → Prop) : Lvs :=
  [eqv (.pointer (some ⟨g, 0, none⟩)),
   eqv (.pointer (some ⟨g, 0, none⟩)),
   eqv (.pointer (some ⟨g, 0, none⟩)),
   eqv (.pointer (some ⟨g, 3, none⟩)),
   eqv (.slice A n c),
   eqv (.agg (cellsW (D1.wr at_ s t)).toArray),
   fun _ _ => True,
   fun v w => w.ownsRow 0 108 36 v (n + 1) (xs ++ cellsW (D1.wr at_ s t)) ∧ ∀ k, v.ownBlock = some k → Rd k,
   eqv (.pointer (some ⟨g, 0, none⟩)),
   eqv (.pointer (some ⟨g, 3, none⟩)),
   fun _ _ => False]
def writeB2 (g n c B : Nat) (A : Option Addr) (D1 : Dk) (at_ : Int) (s : Sec) (t : Tg) (xs : List Value) (Rd : Nat → Prop) : Lvs :=
  [eqv (.pointer (some ⟨g, 0, none⟩)),
   eqv (.pointer (some ⟨g, 0, none⟩)),
   eqv (.pointer (some ⟨g, 0, none⟩)),
   eqv (.pointer (some ⟨g, 3, none⟩)),
   eqv (.slice A n c),
   eqv (.agg (cellsW (D1.wr at_ s t)).toArray),
   fun _ _ => True,
   fun _ _ => True,
   eqv (.pointer (some ⟨g, 0, none⟩)),
   eqv (.pointer (some ⟨g, 3, none⟩)),
   fun _ _ => True]
theorem writeB_keep (g n c B : Nat) (A : Option Addr) (D1 : Dk) (at_ : Int) (s : Sec) (t : Tg) (xs : List Value) (Rd : Nat → Prop) : ∀ L ∈ [writeB0 g n c B A D1 at_ s t xs Rd, writeB1 g n c B A D1 at_ s t xs Rd, writeB2 g n c B A D1 at_ s t xs Rd], ∀ q ∈ L, Keeps (fun W W' => Below W.heap.size W W') q := by
  simp only [writeB0, writeB1, writeB2, List.forall_mem_cons]
  refine ⟨?_, ?_, ?_, by simp⟩
  all_goals
    repeat (first | refine ⟨keep_eqv _ _, ?_⟩ | refine ⟨keep_pure _ _, ?_⟩ | refine ⟨keep_one _ _ _, ?_⟩ | refine ⟨keep_row _ _ _ _ _ _, ?_⟩ | refine ⟨keep_at _ _ _, ?_⟩)
    simp
theorem writeB_turns (g n c B : Nat) (A : Option Addr) (D1 : Dk) (at_ : Int) (s : Sec) (t : Tg) (xs : List Value) (Rd : Nat → Prop) : TurnsAll [writeB0 g n c B A D1 at_ s t xs Rd, writeB1 g n c B A D1 at_ s t xs Rd, writeB2 g n c B A D1 at_ s t xs Rd] := by
  simp only [writeB0, writeB1, writeB2, TurnsAll, Turns]
  refine ⟨?_, ?_, trivial⟩
  all_goals
    repeat (first | refine ⟨turn_eqv _, ?_⟩ | refine ⟨turn_true _, ?_⟩ | refine ⟨turn_false _, ?_⟩ | refine ⟨turn_pure _, ?_⟩)
    trivial
set_option maxRecDepth 100000 in
set_option maxHeartbeats 4000000 in
theorem write_any {w : World} {F : Nat → Prop} {g : Nat} {D : Dk} {bv sv wv lv : Value} (h : DiskV w F g D bv sv wv lv) (hs : 0 < D.safe.length) (hn : D.nx ≤ 1000000) (hw : D.wait.length ≤ 100000) (hl : D.log.length ≤ 100000) (at_ : Int) (s : Sec) (t : Tg) :
    Calls Try.prog 45 #[.pointer (some ⟨g, 0, none⟩), .int .i64 at_, .agg (cellsS s).toArray, .agg (cellsT t).toArray] w fun o w' => o = .returned (.int .i64 (D.write at_ s t).2) ∧ Turned w F g (D.write at_ s t).1 w' := by
  obtain ⟨w1, hw1⟩ : ∃ w1, (w.alloc (.cells (cellsS s).toArray 66)).alloc (.cells (cellsT t).toArray 69) = w1 := ⟨_, rfl⟩
  have hb1 : Below w.heap.size w w1 := by rw [← hw1]; exact ((Below.refl _ w).alloc (Nat.le_refl _) _).alloc (by simp) _
  have hx6 : Blk w1 w.heap.size 66 (cellsS s).toArray := by rw [← hw1]; exact (Blk.new w 66 _).alloc _
  have hx7 : Blk w1 (w.heap.size + 1) 69 (cellsT t).toArray := by rw [← hw1]; have := Blk.new (w.alloc (.cells (cellsS s).toArray 66)) 69 (cellsT t).toArray; simpa using this
  have h1 := h.below hb1
  have hgF := h.own
  have hlt := h.lt g hgF
  have HF : Hid (F g) := Lib.hid hgF
  have HD1 := Lib.hid h1
  have HB1 := Lib.hid hb1
  have HX6 := Lib.hid hx6
  have HX7 := Lib.hid hx7
  obtain ⟨f, hf⟩ : ∃ f, D.fails = f := ⟨_, rfl⟩
  obtain ⟨b, hb⟩ : ∃ b, atIn at_ D.safe.length = b := ⟨_, rfl⟩
  have CN := Lib.hid (none_any h1 hs)
  have CF := fails_any h1 hn
  rw [hf] at CF
  have CFH := Lib.hid CF
  have CH := Lib.hid (fun (W : World) (hd : DiskV W F g D.next bv sv wv lv) => (by have := hasat_any hd hs at_; rwa [show atIn at_ D.next.safe.length = b from hb] at this : Calls Try.prog 87 #[.pointer (some ⟨g, 0, none⟩), .int .i64 at_] W fun o w' => o = .returned (.bool b) ∧ w' = W))
  have HLT := Lib.hid hlt
  have HWL := Lib.hid hw
  have HLL := Lib.hid hl
  have HRES : Hid (D.write at_ s t = if b = false then (D.next, 1) else if f then (D.next, 3) else (D.next.put (D.wr at_ s t), 0)) := Lib.hid (by unfold Dk.write; rw [hb, hf])
  clear h h1 hb1 hx6 hx7 hgF hlt hn hw hl CF hf hb
  cases b with
  | false =>
    go_enter Try.func45, Try.ntmps45
    go_wp2_with fail
    clear hw1
    refine CN.out.mono ?_
    rintro o w' ⟨rfl, rfl⟩
    go_wp2_with fail
    refine CFH.out.mono ?_
    rintro o w2 ⟨rfl, hd2, hg2⟩
    have HD2 := Lib.hid hd2
    have HG2 := Lib.hid hg2
    clear hd2 hg2
    go_wp2_with fail
    refine (CH.out _ HD2.out).mono ?_
    rintro o w' ⟨rfl, rfl⟩
    go_wp2_with fail
    go_ret
    rw [HRES.out]
    exact ⟨rfl, Turned.from_below HB1.out (turned_grown HD2.out HG2.out HF.out)⟩
  | true =>
    cases f with
    | true =>
      go_enter Try.func45, Try.ntmps45
      go_wp2_with fail
      clear hw1
      refine CN.out.mono ?_
      rintro o w' ⟨rfl, rfl⟩
      go_wp2_with fail
      refine CFH.out.mono ?_
      rintro o w2 ⟨rfl, hd2, hg2⟩
      have HD2 := Lib.hid hd2
      have HG2 := Lib.hid hg2
      clear hd2 hg2
      go_wp2_with fail
      refine (CH.out _ HD2.out).mono ?_
      rintro o w' ⟨rfl, rfl⟩
      go_wp2_with fail
      go_ret
      rw [HRES.out]
      exact ⟨rfl, Turned.from_below HB1.out (turned_grown HD2.out HG2.out HF.out)⟩
    | false =>
      go_enter Try.func45, Try.ntmps45
      go_wp2_with fail
      clear hw1
      refine CN.out.mono ?_
      rintro o w' ⟨rfl, rfl⟩
      go_wp2_with fail
      refine CFH.out.mono ?_
      rintro o w2 ⟨rfl, hd2, hg2⟩
      have HG2 := Lib.hid hg2
      have HXS := Lib.hid (HX6.out.grown hg2 (fun e => by have := HLT.out; cases e; omega))
      have HXT := Lib.hid (HX7.out.grown hg2 (fun e => by have := HLT.out; cases e; omega))
      replace hd2 : DiskV w2 F g D.next bv sv wv lv := hd2
      have HCH := Lib.hid (CH.out _ hd2)
      have hdw : D.wr at_ s t = D.next.wr at_ s t := rfl
      rw [hdw] at HRES
      have HWL1 : Hid (D.next.wait.length ≤ 100000) := HWL
      have HLL1 : Hid (D.next.log.length ≤ 100000) := HLL
      obtain ⟨D1, hD1⟩ : ∃ D1, D1 = D.next := ⟨_, rfl⟩
      rw [← hD1] at hd2 HRES HWL1 HLL1
      clear hD1 hdw HWL HLL CH
      have HD2 := Lib.hid hd2
      have HB := Lib.hid hd2.blk
      clear hd2 hg2
      go_wp2_with fail
      refine HCH.out.mono ?_
      rintro o w2' ⟨rfl, e2⟩
      obtain rfl := e2.symm
      go_wp2_with fail
      refine Ph.wp_region_all (ph [writeA0 g w2.heap.size w.heap.size (w.heap.size + 1) D1 at_ s t, writeA1 g w2.heap.size w.heap.size (w.heap.size + 1) D1 at_ s t]) (fun k a W => match k with | 0 => Below w2.heap.size w2 W | 1 => Below w2.heap.size w2 W ∧ ∃ b, a.tmps[10]? = some (.pointer (some ⟨b, 0, none⟩)) ∧ w2.heap.size ≤ b ∧ Blk W b 108 (cellsW (D1.wr at_ s t)).toArray | _ => False) (fun W W' => Below W.heap.size W W') (fun _ _ _ => True) [9] [some 24, some 25, some 26, some 27, some 28, some 29, some 30, some 31, some 10, none] mixedP (by kernel_rfl) (by kernel_rfl) (by kernel_rfl) (by kernel_rfl) (ph_keep (writeA_keep g w2.heap.size w.heap.size (w.heap.size + 1) D1 at_ s t)) (fun k j v W W' _ hs => ph_turn (writeA_turns g w2.heap.size w.heap.size (w.heap.size + 1) D1 at_ s t) k j v W W' hs) (Below.refl _ _).drew ?steps ?fin
      case steps =>
        refine all_lt 10 ?_
        simp only [AllLt]
        refine ⟨?_, ?_, ?_, ?_, ?_, ?_, ?_, ?_, ?_, ?_, trivial⟩
        · refine step_upto (by kernel_rfl) 0 [] (by kernel_rfl) fun k hk a W hJ hf => ?_
          rcases k with _ | k
          · have h1 : a.tmps[1]? = some (.int .i64 at_) := hf.old 1 (by kernel_rfl)
            apply op_value
            case ho => rfl
            case hw => exact (wanted_none rfl)
            case hrun => exact run_move (.inl rfl) (eval_tmp h1)
            case hS => exact rfl
            case hk => exact keep_refl _
            case hJ => exact hJ
          · omega
        · refine step_upto (by kernel_rfl) 0 [] (by kernel_rfl) fun k hk a W hJ hf => ?_
          rcases k with _ | k
          · have h6 : a.tmps[6]? = some (.pointer (some ⟨w.heap.size, 0, none⟩)) := hf.old 6 (by kernel_rfl)
            apply op_value
            case ho => rfl
            case hw => exact (wanted_none rfl)
            case hrun => exact run_load rfl (eval_tmp h6) (ldS (HXS.out.below hJ HXS.out.lt))
            case hS => exact rfl
            case hk => exact keep_refl _
            case hJ => exact hJ
          · omega
        · refine step_upto (by kernel_rfl) 0 [] (by kernel_rfl) fun k hk a W hJ hf => ?_
          rcases k with _ | k
          · have h7 : a.tmps[7]? = some (.pointer (some ⟨w.heap.size + 1, 0, none⟩)) := hf.old 7 (by kernel_rfl)
            apply op_value
            case ho => rfl
            case hw => exact (wanted_none rfl)
            case hrun => exact run_load rfl (eval_tmp h7) (ldT (HXT.out.below hJ HXT.out.lt))
            case hS => exact rfl
            case hk => exact keep_refl _
            case hJ => exact hJ
          · omega
        · refine step_upto (by kernel_rfl) 0 [] (by kernel_rfl) fun k hk a W hJ hf => ?_
          rcases k with _ | k
          · have h0 : a.tmps[0]? = some (.pointer (some ⟨g, 0, none⟩)) := hf.old 0 (by kernel_rfl)
            apply op_value
            case ho => rfl
            case hw => exact (wanted_none rfl)
            case hrun => exact run_move (.inl rfl) (eval_tmp h0)
            case hS => exact rfl
            case hk => exact keep_refl _
            case hJ => exact hJ
          · omega
        · refine step_upto (by kernel_rfl) 0 [] (by kernel_rfl) fun k hk a W hJ hf => ?_
          rcases k with _ | k
          · obtain ⟨v27, h27, rfl⟩ := hf.get 3 27 (by kernel_rfl) (by kernel_rfl)
            apply op_value
            case ho => rfl
            case hw => exact (wanted_none rfl)
            case hrun => exact run_nilCheck rfl (eval_tmp h27)
            case hS => exact rfl
            case hk => exact keep_refl _
            case hJ => exact hJ
          · omega
        · refine step_upto (by kernel_rfl) 0 [] (by kernel_rfl) fun k hk a W hJ hf => ?_
          rcases k with _ | k
          · obtain ⟨v28, h28, rfl⟩ := hf.get 4 28 (by kernel_rfl) (by kernel_rfl)
            apply op_value
            case ho => rfl
            case hw => exact (wanted_none rfl)
            case hrun => exact run_fieldAddr rfl (eval_tmp h28) (V := (.pointer (some ⟨g, 5, none⟩))) (by go_simp)
            case hS => exact rfl
            case hk => exact keep_refl _
            case hJ => exact hJ
          · omega
        · refine step_upto (by kernel_rfl) 0 [] (by kernel_rfl) fun k hk a W hJ hf => ?_
          rcases k with _ | k
          · obtain ⟨v29, h29, rfl⟩ := hf.get 5 29 (by kernel_rfl) (by kernel_rfl)
            apply op_value
            case ho => rfl
            case hw => exact (wanted_none rfl)
            case hrun => exact run_load rfl (eval_tmp h29) (ld3 (hJ.cell (p := ⟨g, 5, none⟩) HB.out.lt |>.trans (HB.out.cell 5)))
            case hS => exact rfl
            case hk => exact keep_refl _
            case hJ => exact hJ
          · omega
        · refine step_upto (by kernel_rfl) 0 [] (by kernel_rfl) fun k hk a W hJ hf => ?_
          rcases k with _ | k
          · obtain ⟨v24, h24, rfl⟩ := hf.get 0 24 (by kernel_rfl) (by kernel_rfl)
            obtain ⟨v25, h25, rfl⟩ := hf.get 1 25 (by kernel_rfl) (by kernel_rfl)
            obtain ⟨v26, h26, rfl⟩ := hf.get 2 26 (by kernel_rfl) (by kernel_rfl)
            obtain ⟨v30, h30, rfl⟩ := hf.get 6 30 (by kernel_rfl) (by kernel_rfl)
            exact op_value rfl (wanted_none rfl) (Ph.run_build rfl (vs := #[(0, .int .i64 at_), (1, .agg (cellsS s).toArray), (2, .agg (cellsT t).toArray), (3, .int .i64 D1.ep)]) (by simp [eval_tmp h24, eval_tmp h25, eval_tmp h26, eval_tmp h30]) (mkW (D1.wr at_ s t) W)) rfl (keep_refl _) hJ
          · omega
        · refine step_upto (by kernel_rfl) 0 [] (by kernel_rfl) fun k hk a W hJ hf => ?_
          rcases k with _ | k
          · exact op_value rfl (wanted_none rfl) (Ph.run_alloc rfl (zW W)) ⟨W.heap.size, rfl, hJ.size, Blk.new W 108 _⟩ ((Below.refl _ W).alloc (Nat.le_refl _) _) (hJ.alloc hJ.size _)
          · omega
        · refine step_eff 0 (by kernel_rfl) (by kernel_rfl) (by kernel_rfl) fun a W hJ hf => ?_
          obtain ⟨v10, h10, b10, rfl, l10, k10⟩ := hf.get 8 10 (by kernel_rfl) (by kernel_rfl)
          obtain ⟨v31, h31, rfl⟩ := hf.get 7 31 (by kernel_rfl) (by kernel_rfl)
          obtain ⟨W', hrun, hb, hg, hs⟩ := stBlk (ty := 108) k10 (new := cellsW (D1.wr at_ s t)) (by simp [cellsW_len]) (by rw [cellsW_len]; exact info108) (cellsW_one _)
          exact op_store rfl (wanted_none rfl) (Ph.run_store rfl (eval_tmp h10) (eval_tmp h31) hrun) trivial trivial ⟨hJ.grown hg hJ.size (fun k e => by cases e; exact l10), b10, h10, l10, hb⟩
      case fin =>
        intro vs w3 hl hJ hS
        obtain ⟨hJ1, b10, hg10, l10, k10⟩ := hJ
        have hl0 : vs.length = 10 := hl
        obtain ⟨x0, r0, rfl, hl1⟩ := cons_of hl0
        obtain ⟨x1, r1, rfl, hl2⟩ := cons_of hl1
        obtain ⟨x2, r2, rfl, hl3⟩ := cons_of hl2
        obtain ⟨x3, r3, rfl, hl4⟩ := cons_of hl3
        obtain ⟨x4, r4, rfl, hl5⟩ := cons_of hl4
        obtain ⟨x5, r5, rfl, hl6⟩ := cons_of hl5
        obtain ⟨x6, r6, rfl, hl7⟩ := cons_of hl6
        obtain ⟨x7, r7, rfl, hl8⟩ := cons_of hl7
        obtain ⟨x8, r8, rfl, hl9⟩ := cons_of hl8
        obtain ⟨x9, r9, rfl, hl10⟩ := cons_of hl9
        obtain rfl := nil_of hl10
        simp only [putAll, Act.put, List.setIfInBounds_toArray, List.set_cons_zero, List.set_cons_succ, List.getElem?_toArray, List.getElem?_cons_succ, List.getElem?_cons_zero, Option.some.injEq] at hg10
        subst hg10
        simp only [putAll, Act.put, List.setIfInBounds_toArray, List.set_cons_zero, List.set_cons_succ]
        have hD3 := HD2.out.below hJ1
        obtain ⟨A, c, rfl, _⟩ := own_slice hD3.wait.1
        obtain ⟨n, hn⟩ : ∃ n, n = D1.wait.length := ⟨_, rfl⟩
        obtain ⟨xs, hxs⟩ : ∃ xs, xs = D1.wait.flatMap cellsW := ⟨_, rfl⟩
        have hb3 := hD3.blk
        have ho3 := hD3.wait.1
        rw [← hn] at hb3
        rw [← hn, ← hxs] at ho3
        have hwl := HWL1.out
        rw [← hn] at hwl
        rw [← hn] at hD3
        have HD3 := Lib.hid hD3
        have HO := Lib.hid ho3
        have HX := Lib.hid k10
        have HN := Lib.hid hwl
        have HN0 := Lib.hid hn
        have HXS0 := Lib.hid hxs
        have HJ1 := Lib.hid hJ1
        have hwr := HD2.out.wait.1
        rw [← hn] at hwr
        have HNE : Hid (∀ k, (Value.slice A n c).ownBlock = some k → b10 ≠ k) := Lib.hid (fun k hk e => by have := own_lt hwr hk; omega)
        clear hwr
        have HT2 : Hid (OnlyF F w w2) := Lib.hid (((OnlyF.of_below HB1.out).grown HG2.out (fun k e _ => by cases e; exact HF.out)))
        clear hS hl hl0 hJ1 l10 k10 hD3 ho3 hwl hn hxs HXS HXT HX6 HX7 HCH HB hl1 hl2 hl3 hl4 hl5 hl6 hl7 hl8 hl9 hl10
        have HB := Lib.hid hb3
        clear hb3
        obtain ⟨i, z, hi, hz, hs, hby, hzs⟩ := row108'
        have HI := Lib.hid hi
        have HZ := Lib.hid hz
        have HS := Lib.hid hs
        have HBY := Lib.hid hby
        have HZS := Lib.hid hzs
        have HRD : Hid (∀ k, (Value.slice A n c).ownBlock = some k ∨ w3.heap.size ≤ k → (Value.slice A n c).ownBlock = some k ∨ w3.heap.size ≤ k) := Lib.hid (fun _ h => h)
        clear hi hz hs hby hzs
        go_wp2_with fail
        refine Ph.wp_region_all (ph [writeB0 g n c b10 A D1 at_ s t xs (fun k => (Value.slice A n c).ownBlock = some k ∨ w3.heap.size ≤ k), writeB1 g n c b10 A D1 at_ s t xs (fun k => (Value.slice A n c).ownBlock = some k ∨ w3.heap.size ≤ k), writeB2 g n c b10 A D1 at_ s t xs (fun k => (Value.slice A n c).ownBlock = some k ∨ w3.heap.size ≤ k)]) (fun k _ W => match k with | 0 => Below w3.heap.size w3 W | 1 => OnlyF (fun k => (Value.slice A n c).ownBlock = some k) w3 W ∧ Blk W g 139 #[bv, .int .i64 D1.nx, sv, .slice A n c, lv, .int .i64 D1.ep] | 2 => ∃ nv, Blk W g 139 #[bv, .int .i64 D1.nx, sv, nv, lv, .int .i64 D1.ep] ∧ W.ownsRow 0 108 36 nv (n + 1) (xs ++ cellsW (D1.wr at_ s t)) ∧ (∀ k, nv.ownBlock = some k → (Value.slice A n c).ownBlock = some k ∨ w3.heap.size ≤ k) ∧ OnlyF (fun k => k = g ∨ (Value.slice A n c).ownBlock = some k) w3 W | _ => False) (fun W W' => Below W.heap.size W W') (fun _ _ _ => True) [7, 10] [some 32, some 33, some 34, some 35, some 36, some 37, some 38, some 39, some 40, some 41, none] mixedP (by kernel_rfl) (by kernel_rfl) (by kernel_rfl) (by kernel_rfl) (ph_keep (writeB_keep g n c b10 A D1 at_ s t xs (fun k => (Value.slice A n c).ownBlock = some k ∨ w3.heap.size ≤ k))) (fun k j v W W' _ hs => ph_turn (writeB_turns g n c b10 A D1 at_ s t xs (fun k => (Value.slice A n c).ownBlock = some k ∨ w3.heap.size ≤ k)) k j v W W' hs) (Below.refl _ _).drew ?steps ?fin
        case steps =>
          refine all_lt 11 ?_
          simp only [AllLt]
          refine ⟨?_, ?_, ?_, ?_, ?_, ?_, ?_, ?_, ?_, ?_, ?_, trivial⟩
          · refine step_upto (by kernel_rfl) 1 [] (by kernel_rfl) fun k hk a W hJ hf => ?_
            rcases k with _ | k
            · have h0 : a.tmps[0]? = some (.pointer (some ⟨g, 0, none⟩)) := hf.old 0 (by kernel_rfl)
              apply op_value
              case ho => rfl
              case hw => exact (wanted_none rfl)
              case hrun => exact run_move (.inl rfl) (eval_tmp h0)
              case hS => exact rfl
              case hk => exact keep_refl _
              case hJ => exact hJ
            rcases k with _ | k
            · have h0 : a.tmps[0]? = some (.pointer (some ⟨g, 0, none⟩)) := hf.old 0 (by kernel_rfl)
              apply op_value
              case ho => rfl
              case hw => exact (wanted_none rfl)
              case hrun => exact run_move (.inl rfl) (eval_tmp h0)
              case hS => exact rfl
              case hk => exact keep_refl _
              case hJ => exact hJ
            · omega
          · refine step_upto (by kernel_rfl) 0 [4, 3, 2] (by kernel_rfl) fun k hk a W hJ hf => ?_
            rcases k with _ | k
            · have h0 : a.tmps[0]? = some (.pointer (some ⟨g, 0, none⟩)) := hf.old 0 (by kernel_rfl)
              apply op_value
              case ho => rfl
              case hw => exact (wanted_none rfl)
              case hrun => exact run_move (.inl rfl) (eval_tmp h0)
              case hS => exact rfl
              case hk => exact keep_refl _
              case hJ => exact hJ
            · omega
          · refine step_upto (by kernel_rfl) 0 [4, 3] (by kernel_rfl) fun k hk a W hJ hf => ?_
            rcases k with _ | k
            · obtain ⟨v33, h33, rfl⟩ := hf.get 1 33 (by kernel_rfl) (by kernel_rfl)
              apply op_value
              case ho => rfl
              case hw => exact (wanted_none rfl)
              case hrun => exact run_nilCheck rfl (eval_tmp h33)
              case hS => exact rfl
              case hk => exact keep_refl _
              case hJ => exact hJ
            · omega
          · refine step_upto (by kernel_rfl) 0 [4] (by kernel_rfl) fun k hk a W hJ hf => ?_
            rcases k with _ | k
            · obtain ⟨v34, h34, rfl⟩ := hf.get 2 34 (by kernel_rfl) (by kernel_rfl)
              apply op_value
              case ho => rfl
              case hw => exact (wanted_none rfl)
              case hrun => exact run_fieldAddr rfl (eval_tmp h34) (V := (.pointer (some ⟨g, 3, none⟩))) (by go_simp)
              case hS => exact rfl
              case hk => exact keep_refl _
              case hJ => exact hJ
            · omega
          · refine step_upto (by kernel_rfl) 0 [] (by kernel_rfl) fun k hk a W hJ hf => ?_
            rcases k with _ | k
            · obtain ⟨v35, h35, rfl⟩ := hf.get 3 35 (by kernel_rfl) (by kernel_rfl)
              apply op_value
              case ho => rfl
              case hw => exact (wanted_none rfl)
              case hrun => exact run_load rfl (eval_tmp h35) (ld41 (hJ.cell (p := ⟨g, 3, none⟩) HB.out.lt |>.trans (HB.out.cell 3)))
              case hS => exact rfl
              case hk => exact keep_refl _
              case hJ => exact hJ
            · omega
          · refine step_upto (by kernel_rfl) 0 [6] (by kernel_rfl) fun k hk a W hJ hf => ?_
            rcases k with _ | k
            · have h10 : a.tmps[10]? = some (.pointer (some ⟨b10, 0, none⟩)) := hf.old 10 (by kernel_rfl)
              apply op_value
              case ho => rfl
              case hw => exact (wanted_none rfl)
              case hrun => exact run_load rfl (eval_tmp h10) (ldW (HX.out.below hJ HX.out.lt))
              case hS => exact rfl
              case hk => exact keep_refl _
              case hJ => exact hJ
            · omega
          · refine step_upto (by kernel_rfl) 0 [] (by kernel_rfl) fun k hk a W hJ hf => ?_
            rcases k with _ | k
            · obtain ⟨v37, h37, rfl⟩ := hf.get 5 37 (by kernel_rfl) (by kernel_rfl)
              exact op_value rfl (wanted_none rfl) (Ph.run_buildSlice rfl (vs := #[(0, (.agg (cellsW (D1.wr at_ s t)).toArray))]) (by simp [eval_tmp h37]) (bldW (D1.wr at_ s t) W)) ⟨_, rfl, Blk.new W 108 _⟩ ((Below.refl _ W).alloc (Nat.le_refl _) _) (hJ.alloc hJ.size _)
            · omega
          · refine step_eff 0 (by kernel_rfl) (by kernel_rfl) (by kernel_rfl) fun a W hJ hf => ?_
            obtain ⟨v36, h36, rfl⟩ := hf.get 4 36 (by kernel_rfl) (by kernel_rfl)
            obtain ⟨v38, h38, b11, rfl, k11⟩ := hf.get 6 38 (by kernel_rfl) (by kernel_rfl)
            refine op_wp rfl (wanted_none rfl) ?_
            refine wp_append_any W (.tmp 36) (.tmp 38) 41 rfl 0 108 i (.agg z) 36 64 Try.underlying41 HI.out HZ.out HS.out HBY.out HZS.out (by decide) (.slice A n c) n xs (eval_tmp h36) (own_below HO.out hJ) W.heap.size (some ⟨b11, 0, none⟩) 1 1 (cellsW (D1.wr at_ s t)) (eval_tmp h38) (reads_blk k11 (by rw [cellsW_len])) (cellsW_one _) (by unfold maxLen; have := HN.out; omega) (by have := HN.out; omega) (Nat.zero_le _) ?_
            intro v' W' hown' hg' hloc
            have hO1 : OnlyF (fun k => (Value.slice A n c).ownBlock = some k) w3 W' := (OnlyF.of_below hJ).grown hg' (fun k e _ => e)
            refine ⟨_, rfl, ⟨hown', fun k hk => HRD.out k (hloc.elim (fun h => .inl (by rw [← h]; exact hk)) (fun h => .inr (by rw [h] at hk; cases hk; exact hJ.size)))⟩, trivial, hO1, hO1.blk HB.out (fun e => own_blk_ne HO.out HB.out (by decide) e)⟩
          · refine step_upto (by kernel_rfl) 1 [9] (by kernel_rfl) fun k hk a W hJ hf => ?_
            rcases k with _ | k
            · obtain ⟨_, _, hno⟩ := hf.dep 7 (by kernel_rfl)
              exact hno.elim
            rcases k with _ | k
            · obtain ⟨v32, h32, rfl⟩ := hf.get 0 32 (by kernel_rfl) (by kernel_rfl)
              apply op_value
              case ho => rfl
              case hw => exact (wanted_none rfl)
              case hrun => exact run_nilCheck rfl (eval_tmp h32)
              case hS => exact rfl
              case hk => exact keep_refl _
              case hJ => exact hJ
            · omega
          · refine step_upto (by kernel_rfl) 1 [] (by kernel_rfl) fun k hk a W hJ hf => ?_
            rcases k with _ | k
            · obtain ⟨_, _, hno⟩ := hf.dep 8 (by kernel_rfl)
              exact hno.elim
            rcases k with _ | k
            · obtain ⟨v40, h40, rfl⟩ := hf.get 8 40 (by kernel_rfl) (by kernel_rfl)
              apply op_value
              case ho => rfl
              case hw => exact (wanted_none rfl)
              case hrun => exact run_fieldAddr rfl (eval_tmp h40) (V := (.pointer (some ⟨g, 3, none⟩))) (by go_simp)
              case hS => exact rfl
              case hk => exact keep_refl _
              case hJ => exact hJ
            · omega
          · refine step_eff 1 (by kernel_rfl) (by kernel_rfl) (by kernel_rfl) fun a W hJ hf => ?_
            obtain ⟨v41, h41, rfl⟩ := hf.get 9 41 (by kernel_rfl) (by kernel_rfl)
            obtain ⟨v39, h39, o12, d12⟩ := hf.get 7 39 (by kernel_rfl) (by kernel_rfl)
            obtain ⟨A2, c2, rfl, _⟩ := own_slice o12
            have hO2 : OnlyF (fun k => k = g ∨ (Value.slice A n c).ownBlock = some k) w3 (W.setCell ⟨g, 3, none⟩ (.slice A2 (n + 1) c2)) := (hJ.1.mono (fun k h => .inr h)).grown (setCell_grown W g 3 _) (fun k e _ => by cases e; exact .inl rfl)
            refine op_store rfl (wanted_none rfl) (Ph.run_store rfl (eval_tmp h41) (eval_tmp h39) (st41 (hJ.2.cell 3) (hJ.2.frozen 3))) trivial trivial ⟨_, ?_, ?_, d12, hO2⟩
            · have := hJ.2.set_ 3 (.slice A2 (n + 1) c2)
              simpa using this
            · exact ((OnlyF.refl (fun k => k = g) W).grown (setCell_grown W g 3 _) (fun k e _ => by cases e; rfl)).own o12 (fun k hk e => by subst e; exact own_blk_ne o12 hJ.2 (by decide) hk)
        case fin =>
          intro vs w4 hl hJ hS
          have hl0 : vs.length = 11 := hl
          obtain ⟨y0, r0, rfl, hl1⟩ := cons_of hl0
          obtain ⟨y1, r1, rfl, hl2⟩ := cons_of hl1
          obtain ⟨y2, r2, rfl, hl3⟩ := cons_of hl2
          obtain ⟨y3, r3, rfl, hl4⟩ := cons_of hl3
          obtain ⟨y4, r4, rfl, hl5⟩ := cons_of hl4
          obtain ⟨y5, r5, rfl, hl6⟩ := cons_of hl5
          obtain ⟨y6, r6, rfl, hl7⟩ := cons_of hl6
          obtain ⟨y7, r7, rfl, hl8⟩ := cons_of hl7
          obtain ⟨y8, r8, rfl, hl9⟩ := cons_of hl8
          obtain ⟨y9, r9, rfl, hl10⟩ := cons_of hl9
          obtain ⟨y10, r10, rfl, hl11⟩ := cons_of hl10
          obtain rfl := nil_of hl11
          simp only [putAll, Act.put, List.setIfInBounds_toArray, List.set_cons_zero, List.set_cons_succ]
          obtain ⟨nv, hb4, ho4, hd4, hO4⟩ := hJ
          rw [HXS0.out, HN0.out] at ho4
          have ho5 : w4.ownsRow 0 108 36 nv (D1.wait ++ [D1.wr at_ s t]).length ((D1.wait ++ [D1.wr at_ s t]).flatMap cellsW) := by simpa using ho4
          obtain ⟨F4, hD4, hW4, hO5⟩ := disk_wait HD3.out hb4 ho5 hd4 hO4
          have hk4 : Blk w4 b10 108 (cellsW (D1.wr at_ s t)).toArray := hO4.blk HX.out (fun hh => hh.elim (fun hh => (Blk.ne_ HX.out HB.out (by decide)) hh) (fun hh => HNE.out _ hh rfl))
          have HD4 := Lib.hid hD4
          have HW4 := Lib.hid hW4
          have HO5 := Lib.hid hO5
          have HK4 := Lib.hid hk4
          clear hS hl hl0 ho4 hd4 hO4 ho5 hb4 hD4 hW4 hO5 hk4 hl1 hl2 hl3 hl4 hl5 hl6 hl7 hl8 hl9 hl10 hl11
          go_wp2_with (first | (with_reducible show wpList _ _ _ (Oper.mk _ (Op.load 108 _) _ _ _ _ :: _) _ _; go_must (refine wpList_load_mid rfl 108 (.tmp 10) rfl b10 0 rfl (cellsW (D1.wr at_ s t)) _ (range0 HK4.out) Try.underlying108 rfl (by rw [cellsW_len]; exact info108) ?_)) | (with_reducible show wpList _ _ _ (Oper.mk _ (Op.build 142 _) _ _ _ _ :: _) _ _; go_must (refine wpList_run rfl _ _ (run_build2 (X := .int .i64 1) (Y := .agg (cellsW (D1.wr at_ s t)).toArray) (V := .agg (cellsE ⟨1, D1.wr at_ s t, [], none, 0⟩).toArray) rfl rfl rfl (mkEw (D1.wr at_ s t) _)) ?_)))
          refine (note_any HD4.out ⟨1, D1.wr at_ s t, [], none, 0⟩ HLL1.out (RowF.nil _ _ _ _)).mono ?_
          rintro o w5 ⟨rfl, F5, lv5, hD5, hW5, hO6⟩
          have HD5 := Lib.hid hD5
          have HW5 := Lib.hid hW5
          have HO6 := Lib.hid hO6
          clear hD5 hW5 hO6
          go_wp2_with fail
          go_ret
          rw [HRES.out]
          exact ⟨rfl, Turned.next HT2.out (Wider.refl _ _ _) (Turned.from_below HJ1.out (Turned.next HO5.out HW4.out ⟨F5, ⟨_, _, _, _, HD5.out⟩, HW5.out, HO6.out⟩))⟩
end Go.Proofs.Ytikhhipgamllgaa
