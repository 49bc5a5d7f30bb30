/- nobody: nobody's disk, and one that nobody made. Conditions: none. (*Disk).Log: the events, their tags apart. Conditions: few events, few tags. -/
import Derived.Test.YtikhhipgamllgaaNew
namespace Go.Proofs.Ytikhhipgamllgaa
open Go.RowKit
theorem bld33 (w : World) : (Instr.buildSlice 33 1 #[(0, .int .i64 1)]).run Try.prog w = .ok (.slice (some ⟨w.heap.size, 0, none⟩) 1 1) (w.alloc (.cells #[.int .i64 1] 3)) := by kernel_rfl
theorem z66 (W : World) : (zeroValue 66).run Try.prog W = .ok (.agg (cellsS zeroSec).toArray) W := by kernel_rfl
theorem mkT0 (w : World) : (Instr.build 69 #[]).run Try.prog w = .ok (.agg (cellsT ⟨0, 0⟩).toArray) w := by kernel_rfl
theorem store66 (w : World) (s t : Sec) : (Instr.storeAt 66 (.pointer (some ⟨w.heap.size, 0, none⟩)) (.agg (cellsS s).toArray)).run Try.prog (w.alloc (.cells (cellsS t).toArray 66)) = .ok () (w.alloc (.cells (cellsS s).toArray 66)) :=
  run_storeAt_new (P := Try.prog) w 66 (cellsS t).toArray (cellsS s).toArray (by rw [List.size_toArray, cellsS_len]; exact info66) (by simp [cellsS_len]) (all_oneCell_toArray (cellsS_one s))
/-- an operation whose guard says yes and whose run is known -/
theorem wpList_wrun {P : Program} {w w' : World} {a : Act} {op : Oper} {ops : Array Oper} {rest : List Oper} {Q : Exit → Act → World → Prop} (hw : Region.wanted op (yielded ops a.tmps) = true) (V : Value) (hr : (execOp a.eval op).run P w = .ok (.value V) w')
    (h : wpList P ops Q rest (a.put op.dst V) w') : wpList P ops Q (op :: rest) a w :=
  BigFrame.wpList_want hw fun _ hK => by
    unfold Oper.wp
    rw [hr]
    exact hK _ _ h
theorem below_then {w a b : World} (h : Below w.heap.size w a) (k : Below a.heap.size a b) : Below w.heap.size w b := h.trans (k.mono h.size)
set_option maxRecDepth 100000 in
set_option maxHeartbeats 4000000 in
theorem nobody_any (w : World) : Calls Try.prog 44 #[] w fun o w' => o = .returned (.bool true) ∧ Below w.heap.size w w' := by
  go_enter Try.func44, Try.ntmps44
  go_wp2
  go_loopw [1, 2] (fun p i wr => ∃ (k : Nat) (pp : Option Addr), k ≤ 2 ∧ i = .int .i64 k ∧ p = .pointer pp ∧ Hid (NoDisk wr pp) ∧ Hid (Below w.heap.size w wr)) (fun _ i _ => 2 - (intOf i).toNat)
  case atStart => exact ⟨0, none, by omega, rfl, rfl, Lib.hid (.inl rfl), Lib.hid (Below.refl _ _)⟩
  case round =>
    obtain ⟨k, pp, hk, rfl, rfl, HN, HB⟩ := hrel
    by_cases hlt : k < 2
    · have hl1 : (k : Int) < 2 := by omega
      obtain ⟨w1, hw1⟩ : ∃ w1, wr.alloc (.cells #[.int .i64 1] 3) = w1 := ⟨_, rfl⟩
      have hb1 : Below wr.heap.size wr w1 := by rw [← hw1]; exact (Below.refl _ wr).alloc (Nat.le_refl _) _
      have hbl := bld33 wr
      rw [hw1] at hbl
      have hn1 := HN.out.below hb1 (Nat.le_refl _)
      have HB1 := Lib.hid (below_then HB.out hb1)
      have HN1 := Lib.hid hn1
      have HBL := Lib.hid hbl
      obtain ⟨s0, hs0⟩ : ∃ s, s = zeroSec := ⟨_, rfl⟩
      have HR := no_read hn1 0
      have hz := z66
      have hm0 := mkS0
      rw [← hs0] at HR hz hm0
      have HRR := Lib.hid HR
      clear hb1 hn1 hbl hw1 HR hs0
      go_wp2_with (with_reducible show wpList _ _ _ (Oper.mk _ (Op.buildSlice _ _ _) _ _ _ _ :: _) _ _; go_must (refine wpList_run rfl _ _ (run_bld1 (X := .int .i64 1) rfl rfl HBL.out) ?_))
      refine (no_fail HN1.out (some ⟨wr.heap.size, 0, none⟩) 1 1).mono ?_
      rintro o w' ⟨rfl, e⟩
      obtain rfl := e.symm
      go_wp2_with fail
      refine HRR.out.mono ?_
      rintro o w2 ⟨rfl, hb2⟩
      have HB2 := Lib.hid (below_then HB1.out hb2)
      have hn2 := HN1.out.below hb2 (Nat.le_refl _)
      obtain ⟨w3, hw3⟩ : ∃ w3, w2.alloc (.cells (cellsS s0).toArray 66) = w3 := ⟨_, rfl⟩
      have hb3 : Below w2.heap.size w2 w3 := by rw [← hw3]; exact (Below.refl _ w2).alloc (Nat.le_refl _) _
      have HN3 := Lib.hid (hn2.below hb3 (Nat.le_refl _))
      have HB3 := Lib.hid (below_then HB2.out hb3)
      have hst : (Instr.storeAt 66 (.pointer (some ⟨w2.heap.size, 0, none⟩)) (.agg (cellsS s0).toArray)).run Try.prog (w2.alloc (.cells (cellsS s0).toArray 66)) = .ok () w3 := by rw [← hw3]; exact store66 w2 s0 s0
      have HST := Lib.hid hst
      clear hb2 hn2 hb3 hst
      go_wp2_with (first
        | (with_reducible show wpList _ _ _ (Oper.mk _ (Op.alloc 66) _ _ _ _ :: _) _ _; go_must (refine wpList_run rfl (.pointer (some ⟨w2.heap.size, 0, none⟩)) (w2.alloc (.cells (cellsS s0).toArray 66)) (Ph.run_alloc (z := .agg (cellsS s0).toArray) rfl (hz w2)) ?_))
        | (with_reducible show wpList _ _ _ (Oper.mk none (Op.store 66 _ _) _ _ _ _ :: _) _ _; go_must (refine wpList_done rfl w3 (Ph.run_store (X := .pointer (some ⟨w2.heap.size, 0, none⟩)) (Y := .agg (cellsS s0).toArray) rfl rfl rfl HST.out) ?_))
        | (go_at_call 43; refine (num_any _ _).mono ?_; rintro o w' ⟨rfl, rfl⟩)
        | (with_reducible show wpList _ _ _ (Oper.mk _ (Op.build 66 _) _ _ _ _ :: _) _ _; go_must (refine wpList_wrun rfl _ (run_build0 (V := .agg (cellsS s0).toArray) rfl (hm0 _)) ?_))
        | (with_reducible show wpList _ _ _ (Oper.mk _ (Op.build 69 _) _ _ _ _ :: _) _ _; go_must (refine wpList_wrun rfl _ (run_build0 (V := .agg (cellsT ⟨0, 0⟩).toArray) rfl (mkT0 _)) ?_)))
      refine (no_write HN3.out 0 s0 ⟨0, 0⟩).mono ?_
      rintro o w4 ⟨rfl, hb4⟩
      have hn4 := HN3.out.below hb4 (Nat.le_refl _)
      have HB4 := Lib.hid (below_then HB3.out hb4)
      have HN4 := Lib.hid hn4
      clear hb4 hn4 hw3 hz hm0
      go_wp2_with (first
        | (go_at_call 43; refine (num_any _ _).mono ?_; rintro o w' ⟨rfl, rfl⟩)
        | (go_at_call 48; refine (no_sync HN4.out _ _ _).mono ?_; rintro o w' ⟨rfl, rfl⟩)
        | (go_at_call 46; refine (no_barrier HN4.out).mono ?_; rintro o w' ⟨rfl, rfl⟩)
        | (go_at_call 56; refine (no_safe HN4.out).mono ?_; rintro o w' ⟨rfl, rfl⟩)
        | (go_at_call 47; refine (no_waiting HN4.out).mono ?_; rintro o w' ⟨rfl, rfl⟩)
        | (go_at_call 59; refine (no_log HN4.out).mono ?_; rintro o w' ⟨rfl, rfl⟩)
        | (go_at_call 60; refine (no_epoch HN4.out).mono ?_; rintro o w' ⟨rfl, rfl⟩)
        | (go_at_call 53; refine (no_clone HN4.out).mono ?_; rintro o w' ⟨rfl, rfl⟩)
        | (with_reducible show wpList _ _ _ (Oper.mk _ (Op.build 139 _) _ _ _ _ :: _) _ _; go_must (refine wpList_run rfl _ _ (run_build0 rfl (mkD0 _)) ?_)))
      exact ⟨⟨k + 1, _, by omega, by go_num, rfl, Lib.hid (.inr ⟨_, rfl, Blk.new _ 139 _⟩), Lib.hid (HB4.out.alloc HB4.out.size _)⟩, by simp [intOf]; omega⟩
    · obtain rfl : k = 2 := by omega
      go_wp2
      go_ret
      exact ⟨rfl, HB.out⟩
end Go.Proofs.Ytikhhipgamllgaa
namespace Go.Proofs.Ytikhhipgamllgaa
open Go.RowKit
def sigE (e : Ev) : Int × Wr × List Tg := (e.kind, e.w, e.tags)
theorem spl_last {l : List Value} (e : Ev) (A : Option Addr) (c k : Nat) (hl : k * 38 + 38 ≤ l.length) (h : ∀ j, j < 38 → l[k * 38 + j]? = (cellsE e)[j]?) : spl l (k * 38) (cellsE { e with A := A, c := c }) = spl l (k * 38 + 37) [.slice A e.tags.length c] := by
  have hlen := cellsE_len { e with A := A, c := c }
  apply List.ext_getElem?
  intro i
  rw [spl_get (by rw [hlen]; exact hl), spl_get (by simp only [List.length_singleton]; omega), hlen]
  simp only [List.length_singleton]
  by_cases h1 : k * 38 ≤ i ∧ i < k * 38 + 38
  · rw [if_pos h1]
    by_cases h2 : i = k * 38 + 37
    · subst h2
      rw [if_pos (by omega), show k * 38 + 37 - k * 38 = 37 by omega, Nat.sub_self]
      unfold cellsE
      rw [List.getElem?_cons_succ, List.getElem?_append_right (by rw [cellsW_len]; omega), cellsW_len]
      rfl
    · rw [if_neg (by omega)]
      have h3 := h (i - k * 38) (by omega)
      rw [show k * 38 + (i - k * 38) = i by omega] at h3
      rw [h3]
      unfold cellsE
      rcases Nat.eq_zero_or_pos (i - k * 38) with h4 | h4
      · rw [h4]; rfl
      · obtain ⟨j, hj⟩ : ∃ j, i - k * 38 = j + 1 := ⟨i - k * 38 - 1, by omega⟩
        rw [hj, List.getElem?_cons_succ, List.getElem?_cons_succ, List.getElem?_append_left (by rw [cellsW_len]; omega), List.getElem?_append_left (by rw [cellsW_len]; omega)]
  · rw [if_neg h1, if_neg (by omega)]
theorem cellsE_v (e : Ev) : (cellsE e)[37]? = some e.v := by
  unfold cellsE
  rw [List.getElem?_cons_succ, List.getElem?_append_right (by rw [cellsW_len]; omega), cellsW_len]
  rfl
/-- rows of events like those of es, of blocks from base on -/
structure LogRow (w : World) (base : Nat) (es : List Ev) (k : Nat) (v : Value) (n : Nat) (fs : List Ev) : Prop where
  len : fs.length = n
  sig : fs.map sigE = es.map sigE
  rest : ∀ j e, k ≤ j → fs[j]? = some e → es[j]? = some e
  row : w.ownsRow base 142 38 v n (fs.flatMap cellsE)
  own : ∀ j e, j < k → fs[j]? = some e → w.ownsRow base 69 2 e.v e.tags.length (e.tags.flatMap cellsT)
theorem LogRow.step {w w' : World} {base : Nat} {es fs : List Ev} {k n b cap : Nat} (h : LogRow w base es k (.slice (some ⟨b, 0, none⟩) n cap) n fs) (hk : k < n) {e : Ev} (he : fs[k]? = some e) (A : Option Addr) (c : Nat)
    (hb : Below w.heap.size w w') (hr : w'.ownsRow w.heap.size 69 2 (.slice A e.tags.length c) e.tags.length (e.tags.flatMap cellsT)) (hB : base ≤ w.heap.size) :
    LogRow (w'.setCells b (k * 38 + 37) [.slice A e.tags.length c]) base es (k + 1) (.slice (some ⟨b, 0, none⟩) n cap) n (fs.set k { e with A := A, c := c }) ∧ w'.there b (k * 38 + 37) 1 := by
  have hcl : (fs.flatMap cellsE).length = n * 38 := by rw [cat_len cellsE 38 cellsE_len, h.len]
  have hle : k * 38 + 38 ≤ n * 38 := by omega
  have hrow := h.row
  have hlt : b < w.heap.size := by
    have := hrow.lt b rfl
    exact this.2
  have hrow' : w'.ownsRow base 142 38 (.slice (some ⟨b, 0, none⟩) n cap) n (fs.flatMap cellsE) := (OnlyF.of_below (F := fun _ => False) hb).own hrow (fun _ _ h => h)
  obtain ⟨hs, hth⟩ := own_stored hrow' (k * 38 + 37) [.slice A e.tags.length c] (by simp only [List.length_singleton]; omega)
  have hset : (fs.set k { e with A := A, c := c }).flatMap cellsE = spl (fs.flatMap cellsE) (k * 38 + 37) [.slice A e.tags.length c] := by
    rw [cat_set cellsE 38 cellsE_len fs k _ (by rw [h.len]; exact hk)]
    exact spl_last e A c k (by rw [hcl]; exact hle) (fun j hj => cat_get cellsE 38 cellsE_len fs k j e he hj)
  have hOF : OnlyF (fun q => q = b) w' (w'.setCells b (k * 38 + 37) [.slice A e.tags.length c]) := (OnlyF.refl _ _).grown (grownBy_setCells w' b _ _) (fun q hq _ => by cases hq; rfl)
  have hkl : k < fs.length := by rw [h.len]; exact hk
  have hkeep : ∀ {v : Value} {m : Nat} {xs : List Value} {bs : Nat}, w'.ownsRow bs 69 2 v m xs → (w'.setCells b (k * 38 + 37) [.slice A e.tags.length c]).ownsRow bs 69 2 v m xs := fun {v m xs bs} ho => hOF.own ho (fun q hq hqb => by
    subst hqb
    exact own_own_ne ho hrow' (by decide) hq rfl)
  refine ⟨⟨by simp [h.len], ?_, fun j f hj hf => ?_, by rw [hset]; exact hs, fun j f hj hf => ?_⟩, hth⟩
  · rw [List.map_set]
    have : (fs.map sigE)[k]? = some (sigE { e with A := A, c := c }) := by rw [List.getElem?_map, he]; rfl
    rw [← h.sig]
    apply List.ext_getElem?
    intro i
    rw [List.getElem?_set]
    split
    · next hi =>
      subst hi
      rw [if_pos (by simpa using hkl), this]
    · rfl
  · rw [List.getElem?_set, if_neg (by omega)] at hf
    exact h.rest j f (by omega) hf
  · rw [List.getElem?_set] at hf
    by_cases hjk : k = j
    · subst hjk
      rw [if_pos rfl, if_pos hkl] at hf
      cases hf
      exact hkeep (own_base hr hB)
    · rw [if_neg hjk] at hf
      exact hkeep ((OnlyF.of_below (F := fun _ => False) hb).own (h.own j f (by omega) hf) (fun _ _ h => h))
def GotLog (w : World) (es : List Ev) (o : Ending) (w' : World) : Prop := ∃ v fs, o = .returned v ∧ LogRow w' w.heap.size es es.length v es.length fs ∧ Below w.heap.size w w'
theorem st70 {g : Nat} {W : World} {i : Nat} {u : Value} {A : Option Addr} {n c : Nat} (h : W.cell? ⟨g, i, none⟩ = some u) (hf : W.frozen? ⟨g, i, none⟩ = false) : (Instr.storeAt 70 (.pointer (some ⟨g, i, none⟩)) (.slice A n c)).run Try.prog W = .ok () (W.setCells g i [.slice A n c]) := by
  go_simp
  rfl
section
variable {w : World} {F : Nat → Prop} {g : Nat} {D : Dk} {bv sv wv lv : Value}
set_option maxRecDepth 100000 in
set_option maxHeartbeats 4000000 in
theorem log_any (h : DiskV w F g D bv sv wv lv) (hs : 0 < D.safe.length) (hl : D.log.length ≤ 1000) (ht : ∀ e ∈ D.log, e.tags.length ≤ 1000) :
    Calls Try.prog 59 #[.pointer (some ⟨g, 0, none⟩)] w (GotLog w D.log) := by
  have CN := Lib.hid (none_any h hs)
  obtain ⟨A0, c0, rfl, hr⟩ := own_slice h.log.1
  have CC := Lib.hid (clone_evs A0 c0 D.log w hl hr)
  have c4 : w.cell? ⟨g, 4, none⟩ = some (.slice A0 D.log.length c0) := h.blk.cell 4
  have HTR : Hid (∀ e ∈ D.log, Reads w w.heap.size 2 e.A e.tags.length (e.tags.flatMap cellsT)) := Lib.hid fun e he => Reads.of_own (h.tags e he).1
  have HT := Lib.hid ht
  clear h hr ht
  obtain ⟨es, hes⟩ : ∃ es, es = D.log := ⟨_, rfl⟩
  rw [← hes] at c4 CC hl HTR HT ⊢
  clear hes
  obtain ⟨n, hn⟩ : ∃ n, n = es.length := ⟨_, rfl⟩
  have HN := Lib.hid hn
  rw [← hn] at c4 CC hl
  clear hn
  go_enter Try.func59, Try.ntmps59
  go_wp2_with (first | (go_at_call 85; refine CN.out.mono ?_; rintro o w' ⟨rfl, rfl⟩) | (go_at_call 100; refine CC.out.mono ?_; rintro o w1 ⟨v, rfl, ho, hb⟩; obtain ⟨A1, c1, rfl, hr1⟩ := own_slice ho; have HO := Lib.hid ho; have HB := Lib.hid hb; clear ho hb hr1))
  go_loopw [14] (fun i wr => ∃ (k : Nat) (fs : List Ev), k ≤ n ∧ i = .int .i64 k ∧ Hid (LogRow wr w'.heap.size es k (.slice A1 n c1) n fs) ∧ Hid (Below w'.heap.size w' wr)) (fun i _ => n - (intOf i).toNat)
  case atStart => exact ⟨0, es, by omega, rfl, Lib.hid ⟨HN.out.symm, rfl, fun _ _ _ h => h, HO.out, fun j _ hj => by omega⟩, HB⟩
  case round =>
    obtain ⟨k, fs, hk, rfl, HL, HB1⟩ := hrel
    by_cases hlt : k < n
    · obtain ⟨e, he⟩ : ∃ e, fs[k]? = some e := ⟨_, List.getElem?_eq_getElem (by rw [HL.out.len]; exact hlt)⟩
      have hrow := HL.out.row
      obtain ⟨b, rfl⟩ : ∃ b, A1 = some ⟨b, 0, none⟩ := by
        rcases hrow.2 with ⟨hv, h0⟩ | ⟨q, cap, cur, hv, _⟩
        · omega
        · simp only [Value.slice.injEq] at hv
          exact ⟨q, hv.1⟩
      have hmem : e ∈ es := List.mem_of_getElem? (HL.out.rest k e (Nat.le_refl _) he)
      have hcl : k * 38 + 37 < n * 38 := by omega
      have hc : wr.cell? ⟨b, k * 38 + 37, none⟩ = some (.slice e.A e.tags.length e.c) := by
        rw [hrow.cellAt _ hcl, cat_get cellsE 38 cellsE_len fs k 37 e he (by omega), cellsE_v]; rfl
      have hrd := ((HTR.out e hmem).below HB1.out).more HB1.out.size
      have HCT := Lib.hid (clone_tags e.A e.c e.tags wr (HT.out e hmem) hrd)
      have HE := Lib.hid he
      obtain ⟨m, hm⟩ : ∃ m, m = e.tags.length := ⟨_, rfl⟩
      rw [← hm] at hc HCT
      have HM := Lib.hid hm
      have HLT := Lib.hid hlt
      have hl1 : (k : Int) < (n : Int) := by omega
      clear hrow hmem hcl hrd he hm
      go_wp2_with fail
      refine HCT.out.mono ?_
      rintro o w2 ⟨v2, rfl, ho2, hb2⟩
      obtain ⟨A2, c2, rfl, _⟩ := own_slice ho2
      rw [HM.out] at ho2
      obtain ⟨hL3, hth⟩ := HL.out.step HLT.out HE.out A2 c2 hb2 ho2 HB1.out.size
      have hcell := (hth 0 (by omega)).1
      have hfz := (hth 0 (by omega)).2
      rw [Nat.add_zero] at hcell hfz
      obtain ⟨u, hu⟩ := Option.isSome_iff_exists.1 hcell
      have hst := st70 (A := A2) (n := e.tags.length) (c := c2) hu hfz
      have hgr := grownBy_setCells w2 b (k * 38 + 37) [.slice A2 e.tags.length c2]
      obtain ⟨w3, hw3⟩ : ∃ w3, w2.setCells b (k * 38 + 37) [.slice A2 e.tags.length c2] = w3 := ⟨_, rfl⟩
      rw [hw3] at hL3 hst hgr
      rw [← HM.out] at hst
      have HST := Lib.hid hst
      have HL3 := Lib.hid hL3
      have hbq : w'.heap.size ≤ b := (HL.out.row.lt b rfl).1
      have HB3 := Lib.hid ((below_then HB1.out hb2).grown hgr (Nat.le_trans HB1.out.size hb2.size) (fun q hq => by cases hq; exact hbq))
      clear hw3 hL3 hst hgr hu hfz hcell hth ho2 hb2 hbq
      go_wp2_with (with_reducible show wpList _ _ _ (Oper.mk none (Op.store 70 _ _) _ _ _ _ :: _) _ _; go_must (refine wpList_done rfl w3 (Ph.run_store (X := .pointer (some ⟨b, k * 38 + 37, none⟩)) (Y := .slice A2 m c2) rfl rfl rfl HST.out) ?_))
      exact ⟨⟨k + 1, _, by omega, by go_num, HL3, HB3⟩, by simp [intOf]; omega⟩
    · obtain rfl : k = n := by omega
      go_wp2
      go_ret
      exact ⟨_, fs, rfl, by rw [← HN.out]; exact HL.out, HB1.out⟩
end
end Go.Proofs.Ytikhhipgamllgaa
