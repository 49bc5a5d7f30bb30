/- (*Disk).note: an event goes onto the log. Conditions: in each theorem. -/
/- Printed by our own program (wip/rb/mk_disk.py). A disk behind a new row in its list of writes; what a Write makes of a disk. Conditions: in each theorem. -/
import Derived.Test.YtikhhipgamllgaaNone
import Derived.Test.YtikhhipgamllgaaTwo
namespace Go.Proofs.Ytikhhipgamllgaa
open Go.RowKit Ph
set_option linter.unusedVariables false
theorem keep_one (e : TypeId) (cs : Array Value) (A : Nat) : Keeps (fun W W' => Below W.heap.size W W') fun v w => ∃ b, v = .slice (some ⟨b, 0, none⟩) A A ∧ Blk w b e cs := fun _ _ _ hb ⟨b, h1, h2⟩ => ⟨b, h1, h2.below hb h2.lt⟩
theorem keep_row (base : Nat) (e : TypeId) (size n : Nat) (xs : List Value) (R : Nat → Prop) : Keeps (fun W W' => Below W.heap.size W W') fun v w => w.ownsRow base e size v n xs ∧ ∀ k, v.ownBlock = some k → R k := fun _ _ _ hb ⟨h1, h2⟩ => ⟨own_below h1 hb, h2⟩
theorem keep_at (B : Nat) (e : TypeId) (cs : Array Value) : Keeps (fun W W' => Below W.heap.size W W') fun v w => ∃ b, v = .pointer (some ⟨b, 0, none⟩) ∧ B ≤ b ∧ Blk w b e cs := fun _ _ _ hb ⟨b, h1, h2, h3⟩ => ⟨b, h1, h2, h3.below hb h3.lt⟩
theorem mixedP : Try.prog.follows .mixedOrders = true := by kernel_rfl
theorem row142' : ∃ (i : TypeInfo) (z : Array Value), Try.prog.info? 142 = some i ∧ i.zero = some (.agg z) ∧ i.size = 38 ∧ i.bytes = 96 ∧ (Value.agg z).cells.size = 38 := by
  obtain ⟨i, z, hi, hz, hs, hzs⟩ := row142
  have hb := info142b
  rw [hi] at hb
  exact ⟨i, z, hi, hz, hs, by simpa using hb, hzs⟩
theorem row108' : ∃ (i : TypeInfo) (z : Array Value), Try.prog.info? 108 = some i ∧ i.zero = some (.agg z) ∧ i.size = 36 ∧ i.bytes = 64 ∧ (Value.agg z).cells.size = 36 := by
  obtain ⟨i, z, hi, hz, hs, hzs⟩ := row108
  have hb := info108b
  rw [hi] at hb
  exact ⟨i, z, hi, hz, hs, by simpa using hb, hzs⟩
def noteL0 (g n c B : Nat) (A : Option Addr) (e : Ev) (xs : List Value) (Rd : Nat → Prop) : Lvs :=
  [eqv (.pointer (some ⟨g, 0, none⟩)),
   eqv (.pointer (some ⟨g, 0, none⟩)),
   eqv (.pointer (some ⟨g, 0, none⟩)),
   eqv (.pointer (some ⟨g, 4, none⟩)),
   eqv (.slice A n c),
   eqv (.agg (cellsE e).toArray),
   fun v w => ∃ b, v = .slice (some ⟨b, 0, none⟩) 1 1 ∧ Blk w b 142 (cellsE e).toArray,
   fun _ _ => False,
   fun _ _ => False,
   fun _ _ => False,
   fun _ _ => False]
def noteL1 (g n c B : Nat) (A : Option Addr) (e : Ev) (xs : List Value) (Rd : Nat → Prop) : Lvs :=
  [eqv (.pointer (some ⟨g, 0, none⟩)),
   eqv (.pointer (some ⟨g, 0, none⟩)),
   eqv (.pointer (some ⟨g, 0, none⟩)),
   eqv (.pointer (some ⟨g, 4, none⟩)),
   eqv (.slice A n c),
   eqv (.agg (cellsE e).toArray),
   fun _ _ => True,
   fun v w => w.ownsRow 0 142 38 v (n + 1) (xs ++ cellsE e) ∧ ∀ k, v.ownBlock = some k → Rd k,
   eqv (.pointer (some ⟨g, 0, none⟩)),
   eqv (.pointer (some ⟨g, 4, none⟩)),
   fun _ _ => False]
def noteL2 (g n c B : Nat) (A : Option Addr) (e : Ev) (xs : List Value) (Rd : Nat → Prop) : Lvs :=
  [eqv (.pointer (some ⟨g, 0, none⟩)),
   eqv (.pointer (some ⟨g, 0, none⟩)),
   eqv (.pointer (some ⟨g, 0, none⟩)),
   eqv (.pointer (some ⟨g, 4, none⟩)),
   eqv (.slice A n c),
   eqv (.agg (cellsE e).toArray),
   fun _ _ => True,
   fun _ _ => True,
   eqv (.pointer (some ⟨g, 0, none⟩)),
   eqv (.pointer (some ⟨g, 4, none⟩)),
   fun _ _ => True]
theorem noteL_keep (g n c B : Nat) (A : Option Addr) (e : Ev) (xs : List Value) (Rd : Nat → Prop) : ∀ L ∈ [noteL0 g n c B A e xs Rd, noteL1 g n c B A e xs Rd, noteL2 g n c B A e xs Rd], ∀ q ∈ L, Keeps (fun W W' => Below W.heap.size W W') q := by
  simp only [noteL0, noteL1, noteL2, List.forall_mem_cons]
  refine ⟨?_, ?_, ?_, by simp⟩
  all_goals
    repeat (first | refine ⟨keep_eqv _ _, ?_⟩ | refine ⟨keep_pure _ _, ?_⟩ | refine ⟨keep_one _ _ _, ?_⟩ | refine ⟨keep_row _ _ _ _ _ _, ?_⟩ | refine ⟨keep_at _ _ _, ?_⟩)
    simp
theorem noteL_turns (g n c B : Nat) (A : Option Addr) (e : Ev) (xs : List Value) (Rd : Nat → Prop) : TurnsAll [noteL0 g n c B A e xs Rd, noteL1 g n c B A e xs Rd, noteL2 g n c B A e xs Rd] := by
  simp only [noteL0, noteL1, noteL2, TurnsAll, Turns]
  refine ⟨?_, ?_, trivial⟩
  all_goals
    repeat (first | refine ⟨turn_eqv _, ?_⟩ | refine ⟨turn_true _, ?_⟩ | refine ⟨turn_false _, ?_⟩ | refine ⟨turn_pure _, ?_⟩)
    trivial
set_option maxRecDepth 100000 in
set_option maxHeartbeats 2000000 in
theorem note_any {w : World} {F : Nat → Prop} {g : Nat} {D : Dk} {bv sv wv lv : Value} (h : DiskV w F g D bv sv wv lv) (e : Ev) (hl : D.log.length ≤ 100000) (ht : RowF w F 69 2 e.v e.tags.length (e.tags.flatMap cellsT)) :
    Calls Try.prog 88 #[.pointer (some ⟨g, 0, none⟩), .agg (cellsE e).toArray] w fun o w' => o = .returned (.int .i64 0) ∧ ∃ F' lv', DiskV w' F' g { D with log := D.log ++ [e] } bv sv wv lv' ∧ Wider F F' w w' ∧ OnlyF F w w' := by
  obtain ⟨w1, hw1⟩ : ∃ w1, w.alloc (.cells (cellsE e).toArray 142) = w1 := ⟨_, rfl⟩
  have hb1 : Below w.heap.size w w1 := by rw [← hw1]; exact (Below.refl _ w).alloc (Nat.le_refl _) _
  have hx1 : Blk w1 w.heap.size 142 (cellsE e).toArray := by rw [← hw1]; exact Blk.new w 142 _
  obtain ⟨A, c, rfl, _⟩ := own_slice h.log.1
  obtain ⟨n, hn⟩ : ∃ n, n = D.log.length := ⟨_, rfl⟩
  obtain ⟨xs, hxs⟩ : ∃ xs, xs = D.log.flatMap cellsE := ⟨_, rfl⟩
  have h1 := h.below hb1
  have HD1 := Lib.hid h1
  have hb := h1.blk
  have ho := h1.log.1
  rw [← hn] at hb
  rw [← hn, ← hxs] at ho
  rw [← hn] at hl
  have HB := Lib.hid hb
  have HO := Lib.hid ho
  have HX := Lib.hid hx1
  have HN := Lib.hid hl
  obtain ⟨i, z, hi, hz, hs, hby, hzs⟩ := row142'
  have HI := Lib.hid hi
  have HZ := Lib.hid hz
  have HS := Lib.hid hs
  have HBY := Lib.hid hby
  have HZS := Lib.hid hzs
  have HRD : Hid (∀ k, (Value.slice A n c).ownBlock = some k ∨ w1.heap.size ≤ k → (Value.slice A n c).ownBlock = some k ∨ w1.heap.size ≤ k) := Lib.hid (fun _ h => h)
  have HT := Lib.hid ht
  have HN0 := Lib.hid hn
  have HXS := Lib.hid hxs
  have HB1 := Lib.hid hb1
  have HFL := Lib.hid h.lt
  have HFO : Hid (∀ k, (Value.slice A n c).ownBlock = some k → F k) := Lib.hid (by rw [hn]; exact h.log.2)
  rw [← hn] at HD1
  clear h h1 hb ho hx1 hl hi hz hs hby hzs ht hn hxs hb1
  go_enter Try.func88, Try.ntmps88
  go_wp2_with fail
  clear hw1
  refine Ph.wp_region_all (ph [noteL0 g n c w.heap.size A e xs (fun k => (Value.slice A n c).ownBlock = some k ∨ w1.heap.size ≤ k), noteL1 g n c w.heap.size A e xs (fun k => (Value.slice A n c).ownBlock = some k ∨ w1.heap.size ≤ k), noteL2 g n c w.heap.size A e xs (fun k => (Value.slice A n c).ownBlock = some k ∨ w1.heap.size ≤ k)]) (fun k _ W => match k with | 0 => Below w1.heap.size w1 W | 1 => OnlyF (fun k => (Value.slice A n c).ownBlock = some k) w1 W ∧ Blk W g 139 #[bv, .int .i64 D.nx, sv, wv, .slice A n c, .int .i64 D.ep] | 2 => ∃ nv, Blk W g 139 #[bv, .int .i64 D.nx, sv, wv, nv, .int .i64 D.ep] ∧ W.ownsRow 0 142 38 nv (n + 1) (xs ++ cellsE e) ∧ (∀ k, nv.ownBlock = some k → (Value.slice A n c).ownBlock = some k ∨ w1.heap.size ≤ k) ∧ OnlyF (fun k => k = g ∨ (Value.slice A n c).ownBlock = some k) w1 W | _ => False) (fun W W' => Below W.heap.size W W') (fun _ _ _ => True) [7, 10] [some 5, some 6, some 7, some 8, some 9, some 10, some 11, some 12, some 13, some 14, none] mixedP (by kernel_rfl) (by kernel_rfl) (by kernel_rfl) (by kernel_rfl) (ph_keep (noteL_keep g n c w.heap.size A e xs (fun k => (Value.slice A n c).ownBlock = some k ∨ w1.heap.size ≤ k))) (fun k j v W W' _ hs => ph_turn (noteL_turns g n c w.heap.size A e xs (fun k => (Value.slice A n c).ownBlock = some k ∨ w1.heap.size ≤ k)) k j v W W' hs) (Below.refl _ _).drew ?steps ?fin
  case steps =>
    refine all_lt 11 ?_
    simp only [AllLt]
    refine ⟨?_, ?_, ?_, ?_, ?_, ?_, ?_, ?_, ?_, ?_, ?_, trivial⟩
    · refine step_upto (by kernel_rfl) 1 [] (by kernel_rfl) fun k hk a W hJ hf => ?_
      rcases k with _ | k
      · have h0 : a.tmps[0]? = some (.pointer (some ⟨g, 0, none⟩)) := hf.old 0 (by kernel_rfl)
        apply op_value
        case ho => rfl
        case hw => exact (wanted_none rfl)
        case hrun => exact run_move (.inl rfl) (eval_tmp h0)
        case hS => exact rfl
        case hk => exact keep_refl _
        case hJ => exact hJ
      rcases k with _ | k
      · have h0 : a.tmps[0]? = some (.pointer (some ⟨g, 0, none⟩)) := hf.old 0 (by kernel_rfl)
        apply op_value
        case ho => rfl
        case hw => exact (wanted_none rfl)
        case hrun => exact run_move (.inl rfl) (eval_tmp h0)
        case hS => exact rfl
        case hk => exact keep_refl _
        case hJ => exact hJ
      · omega
    · refine step_upto (by kernel_rfl) 0 [4, 3, 2] (by kernel_rfl) fun k hk a W hJ hf => ?_
      rcases k with _ | k
      · have h0 : a.tmps[0]? = some (.pointer (some ⟨g, 0, none⟩)) := hf.old 0 (by kernel_rfl)
        apply op_value
        case ho => rfl
        case hw => exact (wanted_none rfl)
        case hrun => exact run_move (.inl rfl) (eval_tmp h0)
        case hS => exact rfl
        case hk => exact keep_refl _
        case hJ => exact hJ
      · omega
    · refine step_upto (by kernel_rfl) 0 [4, 3] (by kernel_rfl) fun k hk a W hJ hf => ?_
      rcases k with _ | k
      · obtain ⟨v6, h6, rfl⟩ := hf.get 1 6 (by kernel_rfl) (by kernel_rfl)
        apply op_value
        case ho => rfl
        case hw => exact (wanted_none rfl)
        case hrun => exact run_nilCheck rfl (eval_tmp h6)
        case hS => exact rfl
        case hk => exact keep_refl _
        case hJ => exact hJ
      · omega
    · refine step_upto (by kernel_rfl) 0 [4] (by kernel_rfl) fun k hk a W hJ hf => ?_
      rcases k with _ | k
      · obtain ⟨v7, h7, rfl⟩ := hf.get 2 7 (by kernel_rfl) (by kernel_rfl)
        apply op_value
        case ho => rfl
        case hw => exact (wanted_none rfl)
        case hrun => exact run_fieldAddr rfl (eval_tmp h7) (V := (.pointer (some ⟨g, 4, none⟩))) (by go_simp)
        case hS => exact rfl
        case hk => exact keep_refl _
        case hJ => exact hJ
      · omega
    · refine step_upto (by kernel_rfl) 0 [] (by kernel_rfl) fun k hk a W hJ hf => ?_
      rcases k with _ | k
      · obtain ⟨v8, h8, rfl⟩ := hf.get 3 8 (by kernel_rfl) (by kernel_rfl)
        apply op_value
        case ho => rfl
        case hw => exact (wanted_none rfl)
        case hrun => exact run_load rfl (eval_tmp h8) (ld89 (hJ.cell (p := ⟨g, 4, none⟩) HB.out.lt |>.trans (HB.out.cell 4)))
        case hS => exact rfl
        case hk => exact keep_refl _
        case hJ => exact hJ
      · omega
    · refine step_upto (by kernel_rfl) 0 [6] (by kernel_rfl) fun k hk a W hJ hf => ?_
      rcases k with _ | k
      · have h3 : a.tmps[3]? = some (.pointer (some ⟨w.heap.size, 0, none⟩)) := hf.old 3 (by kernel_rfl)
        apply op_value
        case ho => rfl
        case hw => exact (wanted_none rfl)
        case hrun => exact run_load rfl (eval_tmp h3) (ldE (HX.out.below hJ HX.out.lt))
        case hS => exact rfl
        case hk => exact keep_refl _
        case hJ => exact hJ
      · omega
    · refine step_upto (by kernel_rfl) 0 [] (by kernel_rfl) fun k hk a W hJ hf => ?_
      rcases k with _ | k
      · obtain ⟨v10, h10, rfl⟩ := hf.get 5 10 (by kernel_rfl) (by kernel_rfl)
        exact op_value rfl (wanted_none rfl) (Ph.run_buildSlice rfl (vs := #[(0, (.agg (cellsE e).toArray))]) (by simp [eval_tmp h10]) (bldE e W)) ⟨_, rfl, Blk.new W 142 _⟩ ((Below.refl _ W).alloc (Nat.le_refl _) _) (hJ.alloc hJ.size _)
      · omega
    · refine step_eff 0 (by kernel_rfl) (by kernel_rfl) (by kernel_rfl) fun a W hJ hf => ?_
      obtain ⟨v9, h9, rfl⟩ := hf.get 4 9 (by kernel_rfl) (by kernel_rfl)
      obtain ⟨v11, h11, b11, rfl, k11⟩ := hf.get 6 11 (by kernel_rfl) (by kernel_rfl)
      refine op_wp rfl (wanted_none rfl) ?_
      refine wp_append_any W (.tmp 9) (.tmp 11) 89 rfl 0 142 i (.agg z) 38 96 Try.underlying89 HI.out HZ.out HS.out HBY.out HZS.out (by decide) (.slice A n c) n xs (eval_tmp h9) (own_below HO.out hJ) W.heap.size (some ⟨b11, 0, none⟩) 1 1 (cellsE e) (eval_tmp h11) (reads_blk k11 (by rw [cellsE_len])) (cellsE_one _) (by unfold maxLen; have := HN.out; omega) (by have := HN.out; omega) (Nat.zero_le _) ?_
      intro v' W' hown' hg' hloc
      have hO1 : OnlyF (fun k => (Value.slice A n c).ownBlock = some k) w1 W' := (OnlyF.of_below hJ).grown hg' (fun k e _ => e)
      refine ⟨_, rfl, ⟨hown', fun k hk => HRD.out k (hloc.elim (fun h => .inl (by rw [← h]; exact hk)) (fun h => .inr (by rw [h] at hk; cases hk; exact hJ.size)))⟩, trivial, hO1, hO1.blk HB.out (fun e => own_blk_ne HO.out HB.out (by decide) e)⟩
    · refine step_upto (by kernel_rfl) 1 [9] (by kernel_rfl) fun k hk a W hJ hf => ?_
      rcases k with _ | k
      · obtain ⟨_, _, hno⟩ := hf.dep 7 (by kernel_rfl)
        exact hno.elim
      rcases k with _ | k
      · obtain ⟨v5, h5, rfl⟩ := hf.get 0 5 (by kernel_rfl) (by kernel_rfl)
        apply op_value
        case ho => rfl
        case hw => exact (wanted_none rfl)
        case hrun => exact run_nilCheck rfl (eval_tmp h5)
        case hS => exact rfl
        case hk => exact keep_refl _
        case hJ => exact hJ
      · omega
    · refine step_upto (by kernel_rfl) 1 [] (by kernel_rfl) fun k hk a W hJ hf => ?_
      rcases k with _ | k
      · obtain ⟨_, _, hno⟩ := hf.dep 8 (by kernel_rfl)
        exact hno.elim
      rcases k with _ | k
      · obtain ⟨v13, h13, rfl⟩ := hf.get 8 13 (by kernel_rfl) (by kernel_rfl)
        apply op_value
        case ho => rfl
        case hw => exact (wanted_none rfl)
        case hrun => exact run_fieldAddr rfl (eval_tmp h13) (V := (.pointer (some ⟨g, 4, none⟩))) (by go_simp)
        case hS => exact rfl
        case hk => exact keep_refl _
        case hJ => exact hJ
      · omega
    · refine step_eff 1 (by kernel_rfl) (by kernel_rfl) (by kernel_rfl) fun a W hJ hf => ?_
      obtain ⟨v14, h14, rfl⟩ := hf.get 9 14 (by kernel_rfl) (by kernel_rfl)
      obtain ⟨v12, h12, o12, d12⟩ := hf.get 7 12 (by kernel_rfl) (by kernel_rfl)
      obtain ⟨A2, c2, rfl, _⟩ := own_slice o12
      have hO2 : OnlyF (fun k => k = g ∨ (Value.slice A n c).ownBlock = some k) w1 (W.setCell ⟨g, 4, none⟩ (.slice A2 (n + 1) c2)) := (hJ.1.mono (fun k h => .inr h)).grown (setCell_grown W g 4 _) (fun k e _ => by cases e; exact .inl rfl)
      refine op_store rfl (wanted_none rfl) (Ph.run_store rfl (eval_tmp h14) (eval_tmp h12) (st89 (hJ.2.cell 4) (hJ.2.frozen 4))) trivial trivial ⟨_, ?_, ?_, d12, hO2⟩
      · have := hJ.2.set_ 4 (.slice A2 (n + 1) c2)
        simpa using this
      · exact ((OnlyF.refl (fun k => k = g) W).grown (setCell_grown W g 4 _) (fun k e _ => by cases e; rfl)).own o12 (fun k hk e => by subst e; exact own_blk_ne o12 hJ.2 (by decide) hk)
  case fin =>
    intro vs w2 hl hJ hS
    have hl0 : vs.length = 11 := hl
    obtain ⟨x0, r0, rfl, hl1⟩ := cons_of hl0
    obtain ⟨x1, r1, rfl, hl2⟩ := cons_of hl1
    obtain ⟨x2, r2, rfl, hl3⟩ := cons_of hl2
    obtain ⟨x3, r3, rfl, hl4⟩ := cons_of hl3
    obtain ⟨x4, r4, rfl, hl5⟩ := cons_of hl4
    obtain ⟨x5, r5, rfl, hl6⟩ := cons_of hl5
    obtain ⟨x6, r6, rfl, hl7⟩ := cons_of hl6
    obtain ⟨x7, r7, rfl, hl8⟩ := cons_of hl7
    obtain ⟨x8, r8, rfl, hl9⟩ := cons_of hl8
    obtain ⟨x9, r9, rfl, hl10⟩ := cons_of hl9
    obtain ⟨x10, r10, rfl, hl11⟩ := cons_of hl10
    obtain rfl := nil_of hl11
    clear hS hl hl0 hl1 hl2 hl3 hl4 hl5 hl6 hl7 hl8 hl9 hl10 hl11
    simp only [putAll, Act.put, List.setIfInBounds_toArray, List.set_cons_zero, List.set_cons_succ]
    have HJ := Lib.hid hJ
    clear hJ
    go_wp2_with fail
    go_ret
    obtain ⟨lv', hb2, ho2, hd2, hO2⟩ := HJ.out
    have h1 := HD1.out
    have hO := h1.log.1
    refine ⟨rfl, fun k => F k ∨ lv'.ownBlock = some k, lv', ⟨hb2, .inl h1.own, fun k hk => hk.elim (fun h => Nat.lt_of_lt_of_le (h1.lt k h) hO2.size) (fun h => own_lt ho2 h), ((h1.bad.past h1.blk hO hO2).mono (fun _ h => .inl h)),
      ((h1.safe.past h1.blk hO (by decide) (by decide) hO2).mono (fun _ h => .inl h)), ((h1.wait.past h1.blk hO (by decide) (by decide) hO2).mono (fun _ h => .inl h)), ⟨?_, fun k h => .inr h⟩, ?_⟩, ?_, ?_⟩
    · rw [HXS.out, HN0.out] at ho2
      simpa using ho2
    · intro e' he'
      rcases List.mem_append.1 he' with he' | he'
      · exact ((h1.tags e' he').past h1.blk hO (by decide) (by decide) hO2).mono (fun _ h => .inl h)
      · have e1 : e' = e := by simpa using he'
        subst e1
        exact (((HT.out.keep (G := fun _ => False) (OnlyF.of_below HB1.out) (fun _ _ h => h)).past h1.blk hO (by decide) (by decide) hO2)).mono (fun _ h => .inl h)
    · intro k hk
      rcases hk with hk | hk
      · exact .inl hk
      · rcases hd2 k hk with h | h
        · exact .inl (HFO.out k h)
        · exact .inr ⟨Nat.le_trans HB1.out.size h, own_lt ho2 hk⟩
    · exact (OnlyF.of_below HB1.out).trans hO2 (fun k hk h => h.elim (fun h => by subst h; exact h1.own) (fun h => HFO.out k h))
end Go.Proofs.Ytikhhipgamllgaa
namespace Go.Proofs.Ytikhhipgamllgaa
open Go.RowKit
section
variable {w w2 : World} {F : Nat → Prop} {g : Nat} {D : Dk} {bv sv wv lv wv' : Value}
theorem disk_wait (h : DiskV w F g D bv sv wv lv) {ws : List Wr} (hb2 : Blk w2 g 139 #[bv, .int .i64 D.nx, sv, wv', lv, .int .i64 D.ep]) (ho2 : w2.ownsRow 0 108 36 wv' ws.length (ws.flatMap cellsW))
    (hd : ∀ k, wv'.ownBlock = some k → wv.ownBlock = some k ∨ w.heap.size ≤ k) (hO2 : OnlyF (fun k => k = g ∨ wv.ownBlock = some k) w w2) :
    ∃ F', DiskV w2 F' g { D with wait := ws } bv sv wv' lv ∧ Wider F F' w w2 ∧ OnlyF F w w2 := by
  have hO := h.wait.1
  refine ⟨fun k => F k ∨ wv'.ownBlock = some k, ⟨hb2, .inl h.own, fun k hk => hk.elim (fun hh => Nat.lt_of_lt_of_le (h.lt k hh) hO2.size) (fun hh => own_lt ho2 hh), (h.bad.past h.blk hO hO2).mono (fun _ h => .inl h),
    (h.safe.past h.blk hO (by decide) (by decide) hO2).mono (fun _ h => .inl h), ⟨ho2, fun k h => .inr h⟩, (h.log.past h.blk hO (by decide) (by decide) hO2).mono (fun _ h => .inl h), fun e he => ((h.tags e he).past h.blk hO (by decide) (by decide) hO2).mono (fun _ h => .inl h)⟩, ?_, ?_⟩
  · intro k hk
    rcases hk with hk | hk
    · exact .inl hk
    · rcases hd k hk with hh | hh
      · exact .inl (h.wait.2 k hh)
      · exact .inr ⟨hh, own_lt ho2 hk⟩
  · exact hO2.mono (fun k hh => hh.elim (fun hh => by subst hh; exact h.own) (fun hh => h.wait.2 k hh))
end
def Dk.wr (D : Dk) (at_ : Int) (s : Sec) (t : Tg) : Wr := { at_ := at_, s := s, tk := t.k, ti := t.i, ep := D.ep }
def Dk.put (D : Dk) (x : Wr) : Dk := { D with wait := D.wait ++ [x], log := D.log ++ [⟨1, x, [], none, 0⟩] }
def Dk.next (D : Dk) : Dk := { D with nx := D.nx + 1 }
def Dk.write (D : Dk) (at_ : Int) (s : Sec) (t : Tg) : Dk × Int := if atIn at_ D.safe.length = false then (D.next, 1) else if D.fails then (D.next, 3) else (D.next.put (D.wr at_ s t), 0)
theorem Wider.trans {F F' F'' : Nat → Prop} {w w' w'' : World} (h : Wider F F' w w') (h' : Wider F' F'' w' w'') (h1 : w.heap.size ≤ w'.heap.size) (h2 : w'.heap.size ≤ w''.heap.size) : Wider F F'' w w'' := fun k hk => by
  rcases h' k hk with h3 | ⟨h3, h4⟩
  · rcases h k h3 with h5 | ⟨h5, h6⟩
    · exact .inl h5
    · exact .inr ⟨h5, by omega⟩
  · exact .inr ⟨by omega, h4⟩
theorem OnlyF.next {F F' : Nat → Prop} {w w' w'' : World} (h : OnlyF F w w') (hw : Wider F F' w w') (h' : OnlyF F' w' w'') : OnlyF F w w'' := h.trans h' (fun k hk hf => (hw k hf).elim id (fun hh => by omega))
theorem Turned.next {F F' : Nat → Prop} {g : Nat} {D' : Dk} {w w' w'' : World} (h : OnlyF F w w') (hw : Wider F F' w w') (h' : Turned w' F' g D' w'') : Turned w F g D' w'' := by
  obtain ⟨F'', hd, hw', ho'⟩ := h'
  exact ⟨F'', hd, hw.trans hw' h.size ho'.size, h.next hw ho'⟩
theorem Turned.below {F : Nat → Prop} {g : Nat} {D' : Dk} {w w' w'' : World} (h : Turned w F g D' w') (hb : Below w'.heap.size w' w'') : Turned w F g D' w'' := by
  obtain ⟨F', hd, hw, ho⟩ := h
  refine ⟨F', hd.below hb, fun k hk => (hw k hk).imp id (fun hh => ⟨hh.1, Nat.lt_of_lt_of_le hh.2 hb.size⟩), ho.andThen hb⟩
theorem Turned.from_below {F : Nat → Prop} {g : Nat} {D' : Dk} {w w' w'' : World} (hb : Below w.heap.size w w') (h : Turned w' F g D' w'') : Turned w F g D' w'' := Turned.next (OnlyF.of_below hb) (Wider.refl F w w') h
theorem turned_grown {F : Nat → Prop} {g : Nat} {D' : Dk} {w w' : World} {bv sv wv lv : Value} (hd : DiskV w' F g D' bv sv wv lv) (hg : w.grownBy w' (some g)) (hF : F g) : Turned w F g D' w' :=
  ⟨F, ⟨_, _, _, _, hd⟩, Wider.refl _ _ _, (OnlyF.refl F w).grown hg (fun k e _ => by cases e; exact hF)⟩
end Go.Proofs.Ytikhhipgamllgaa
