/- The document's Settle, walked. Conditions: short lists; all that waits has a sector. -/
/- Printed by our own program (wip/rb/mk_settle.py). append onto a slice that was just written and is empty: what comes back lies in new memory. Conditions: in the theorem. The document's disk: Write. Conditions: in each theorem. -/
/- Printed by our own program (wip/rb/mk_ref.py). The document's disk: Sync. Conditions: in each theorem. -/
/- Printed by our own program (wip/rb/mk_ref.py, rsync.tpl). -/
import Derived.Test.YtikhhipgamllgaaEqv
import Derived.Test.YtikhhipgamllgaaReadsL
import Derived.Test.YtikhhipgamllgaaWords
import Derived.Test.YtikhhipgamllgaaWrite
namespace Go.Proofs.Ytikhhipgamllgaa
open Go.RowKit
structure SetR (w0 wr : World) (gm : Nat) (mb : List Value) (ov : Value) (l : List Sec) : Prop where
  out : wr.ownsRow w0.heap.size 66 32 ov l.length (l.flatMap cellsS)
  made : Blk wr gm 4 mb.toArray
  low : w0.heap.size ≤ gm
  below : Below w0.heap.size w0 wr
theorem SetR.grow {w0 wr w2 : World} {gm : Nat} {mb : List Value} {ov : Value} {l : List Sec} (h : SetR w0 wr gm mb ov l) (hb : Below wr.heap.size wr w2) : SetR w0 w2 gm mb ov l :=
  ⟨own_below h.out hb, h.made.below hb h.made.lt, h.low, below_then h.below hb⟩
theorem SetR.mark {w0 wr : World} {gm : Nat} {mb : List Value} {ov : Value} {l : List Sec} (h : SetR w0 wr gm mb ov l) (i : Nat) (u : Value) : SetR w0 (wr.setCell ⟨gm, i, none⟩ u) gm (mb.set i u) ov l := by
  have hO : OnlyF (fun k => k = gm) wr (wr.setCell ⟨gm, i, none⟩ u) := (OnlyF.refl _ wr).grown (setCell_grown wr gm i _) (fun k e _ => by cases e; rfl)
  exact ⟨hO.own h.out (fun k hk hh => by subst hh; exact own_blk_ne (own_base h.out (Nat.zero_le _)) h.made (by decide) hk), set_list h.made i u, h.low, h.below.trans (hO.below h.below.size (fun k hk => by rw [hk]; exact h.low))⟩
theorem SetR.put {w0 wr w2 : World} {gm : Nat} {mb : List Value} {ov : Value} {l l2 : List Sec} (h : SetR w0 wr gm mb ov l) (ho : w2.ownsRow w0.heap.size 66 32 ov l2.length (l2.flatMap cellsS)) (hg : wr.grownBy w2 ov.ownBlock) : SetR w0 w2 gm mb ov l2 :=
  ⟨ho, h.made.grown hg (fun e => own_blk_ne (own_base h.out (Nat.zero_le _)) h.made (by decide) e.symm), h.low, h.below.grown hg h.below.size (fun k hk => (h.out.lt k hk).1)⟩
set_option maxRecDepth 100000 in
set_option maxHeartbeats 8000000 in
theorem rsettle_any (A1 A2 A3 : Option Addr) (c1 c2 c3 : Nat) (l : List Sec) (ws : List Wr) (ts : List Tg) (w : World) (hq : 0 < l.length) (hql : l.length ≤ 1000) (hnl : ws.length ≤ 1000) (hpl : ts.length ≤ 1000) (hr1 : Reads w w.heap.size 32 A1 l.length (l.flatMap cellsS)) (hr2 : Reads w w.heap.size 36 A2 ws.length (ws.flatMap cellsW))
    (hr3 : Reads w w.heap.size 2 A3 ts.length (ts.flatMap cellsT)) (hok : ∀ x ∈ ws, atIn x.at_ l.length = true) :
    Calls Try.prog 105 #[.slice A1 l.length c1, .slice A2 ws.length c2, .slice A3 ts.length c3] w (SetTo w (safeN ws (madeB ts (topN ws ts ws.length)) l ws.length) (leftN ws (madeB ts (topN ws ts ws.length)) (lastN ws (madeB ts (topN ws ts ws.length)) ws.length) ws.length)) := by
  obtain ⟨n, hnn⟩ : ∃ n, n = ws.length := ⟨_, rfl⟩
  obtain ⟨q, hqq⟩ : ∃ q, q = l.length := ⟨_, rfl⟩
  obtain ⟨p, hpp⟩ : ∃ p, p = ts.length := ⟨_, rfl⟩
  have HN := Lib.hid hnn
  have HQ := Lib.hid hqq
  have HP := Lib.hid hpp
  have HR1 := Lib.hid hr1
  have HR2 := Lib.hid hr2
  have HR3 := Lib.hid hr3
  have HOK := Lib.hid hok
  have HPL := Lib.hid hpl
  rw [← hnn, ← hqq, ← hpp]
  rw [← hnn] at hnl
  rw [← hqq] at hq hql
  have HC : Hid (∀ (W : World) (x : Wr), Below w.heap.size w W → Calls Try.prog 116 #[.slice A3 p c3, .agg (cellsT x.tg).toArray] W fun o w' => o = .returned (.bool (decide (x.tg ∈ ts))) ∧ Below W.heap.size W w') := Lib.hid (fun W x hb => by
    have := rhas_any A3 c3 ts x.tg W HPL.out ((HR3.out.below hb).more hb.size)
    rw [hpp]; exact this)
  clear hr1 hr2 hr3 hok hnn hqq hpp hpl
  go_enter Try.func105, Try.ntmps105
  go_wp2_with fail
  go_loopw [8, 9, 10] (fun e s i wr => ∃ k : Nat, k ≤ n ∧ i = .int .i64 k ∧ e = .int .i64 (topN ws ts k).1 ∧ s = .bool (topN ws ts k).2 ∧ Hid (Below w.heap.size w wr)) (fun _ _ i _ => n - (intOf i).toNat)
  case atStart => exact ⟨0, by omega, rfl, rfl, rfl, Lib.hid (Below.refl _ _)⟩
  case round =>
    obtain ⟨k, hk, rfl, rfl, rfl, HB⟩ := hrel
    by_cases hlt : k < n
    · obtain ⟨pp, hp⟩ : ∃ p, p = topN ws ts k := ⟨_, rfl⟩
      rw [← hp]
      obtain ⟨x, hx⟩ : ∃ x, ws[k]? = some x := ⟨_, List.getElem?_eq_getElem (by rw [← HN.out]; exact hlt)⟩
      obtain ⟨bb, o, rfl, hbb, hit⟩ := (HR2.out.below HB.out).item (f := cellsW) cellsW_len (by omega) (k := k) (by rw [← HN.out]; exact hlt)
      have hra := hit k x hx
      have HTG := Lib.hid (rangeAt_part hra 33 _ (fun j v hj => by have := cellsW_tg x j v hj; simpa using this) : wr.rangeAt bb (o + k * 36 + 33) (cellsT x.tg))
      have HEP : Hid (wr.cell? ⟨bb, o + k * 36 + 35, none⟩ = some (.int .i64 x.ep)) := Lib.hid (hra 35 _ (cellsW_ep x))
      have HST : Hid (topN ws ts (k + 1) = topS ts x pp) := Lib.hid (by rw [topN_step hx, hp])
      have HBB : Hid (bb < wr.heap.size) := Lib.hid (Nat.lt_of_lt_of_le hbb HB.out.size)
      obtain ⟨pe, ps⟩ := pp
      obtain ⟨mm, hmm⟩ : ∃ m, decide (x.tg ∈ ts) = m := ⟨_, rfl⟩
      obtain ⟨gg, hgg⟩ : ∃ g, decide (pe < x.ep) = g := ⟨_, rfl⟩
      have hgt : decide (x.ep > pe) = gg := hgg
      have HRS : Hid (topN ws ts (k + 1) = if mm && (!ps || gg) then (x.ep, true) else (pe, ps)) := Lib.hid (by
        rw [HST.out]
        unfold topS
        rw [← hmm, ← hgg]
        cases ps <;> simp)
      have hcc := HC.out wr x HB.out
      rw [hmm] at hcc
      have HCC := Lib.hid hcc
      have HGT : Hid (∀ W, (binOp .gtr 3 (.int .i64 x.ep) (.int .i64 pe)).run Try.prog W = .ok (.bool gg) W) := Lib.hid (fun W => by rw [gtrI, hgg])
      have hl1 : (k : Int) < (n : Int) := by omega
      clear hx hbb hit hra hp hmm hgg hgt hcc
      cases mm <;> cases ps <;> cases gg
      all_goals
        go_wp2_with (first
          | (with_reducible show wpList _ _ _ (Oper.mk _ (Op.load 69 _) _ _ _ _ :: _) _ _; go_must (refine wpList_wrun rfl _ (Ph.run_load (X := .pointer (some ⟨bb, o + k * 36 + 33, none⟩)) rfl rfl (ldTm HTG.out)) ?_)))
        refine HCC.out.mono ?_
        rintro o' w2 ⟨rfl, hb2⟩
        have HB2 := Lib.hid (below_then HB.out hb2)
        have c35 : w2.cell? ⟨bb, o + k * 36 + 35, none⟩ = some (.int .i64 x.ep) := (hb2.cell (p := ⟨bb, _, none⟩) HBB.out).trans HEP.out
        clear hb2
        go_wp2_with (first
          | (with_reducible show wpList _ _ _ (Oper.mk (some 41) _ _ _ _ _ :: _) _ _; go_must (refine wpList_wrun rfl _ (Ph.run_bin (X := .int .i64 x.ep) (Y := .int .i64 pe) rfl rfl rfl rfl (HGT.out _)) ?_)))
        exact ⟨⟨k + 1, by omega, by go_num, by rw [HRS.out]; rfl, by rw [HRS.out]; rfl, HB2⟩, by simp [intOf]; omega⟩
    · have hkn : n = k := by omega
      subst hkn
      obtain ⟨pe, ps, hp⟩ : ∃ pe ps, topN ws ts n = (pe, ps) := ⟨_, _, rfl⟩
      rw [hp]
      have HTOP := Lib.hid hp
      obtain ⟨mk, hmk⟩ : ∃ mk, mk = madeB ts (pe, ps) := ⟨_, rfl⟩
      have HMK := Lib.hid hmk
      clear hp hmk
      obtain ⟨w4, hw4⟩ : ∃ w4, wr.alloc (.cells #[] 66) = w4 := ⟨_, rfl⟩
      have hb4 : Below wr.heap.size wr w4 := by rw [← hw4]; exact (Below.refl _ wr).alloc (Nat.le_refl _) _
      have hlit : w4.ownsRow w.heap.size 66 32 (.slice (some ⟨wr.heap.size, 0, none⟩) 0 0) 0 [] := by rw [← hw4]; exact World.ownsRow_lit wr #[] 0 HB.out.size (by decide) (by simp)
      have hbl := bld40_0 wr
      rw [hw4] at hbl
      have HBL := Lib.hid hbl
      have HB4 := Lib.hid (below_then HB.out hb4)
      have HLIT := Lib.hid hlit
      have HR4 : Hid (Reads w4 w.heap.size 32 A1 q (l.flatMap cellsS)) := Lib.hid (by rw [HQ.out]; exact HR1.out.below (below_then HB.out hb4))
      have HSZ : Hid (w.heap.size ≤ w4.heap.size) := Lib.hid (below_then HB.out hb4).size
      have HSZR : Hid (w.heap.size ≤ wr.heap.size) := Lib.hid HB.out.size
      obtain ⟨i66, z, hi, hz, hs, hby, hzs⟩ := row66
      have HI := Lib.hid hi
      have HZ := Lib.hid hz
      have HS := Lib.hid hs
      have HBY := Lib.hid hby
      have HZS := Lib.hid hzs
      have HNL : Hid (n ≤ 1000) := Lib.hid hnl
      have HQL : Hid (q ≤ 1000) := Lib.hid hql
      have HQ0 : Hid (0 < q) := Lib.hid hq
      have HMB : Hid (∀ W, (Instr.makeSlice 171 (.int .i64 n) (.int .i64 n)).run Try.prog W = .ok (.slice (some ⟨W.heap.size, 0, none⟩) n n) (W.alloc (.cells (mbL ws mk n 0).toArray 4))) := Lib.hid (fun W => make_bools n (by omega) W ws mk)
      clear hw4 hb4 hlit hbl hi hz hs hby hzs HB
      go_wp2_with (first
        | (with_reducible show wpList _ _ _ (Oper.mk (some 49) _ _ _ _ _ :: _) _ _; go_must (refine wpList_wrun rfl _ (Ph.run_buildSlice (vs := #[]) rfl (by simp) HBL.out) ?_))
        | (with_reducible show wpList _ _ _ (Oper.mk (some 51) _ _ _ _ _ :: _) _ _; go_must (refine wpList_append_any _ rfl (.tmp 49) (.tmp 50) 40 rfl w.heap.size 66 i66 (.agg z) 32 32 Try.underlying40 HI.out HZ.out HS.out HBY.out HZS.out (by decide) (.slice (some ⟨wr.heap.size, 0, none⟩) 0 0) 0 [] rfl HLIT.out w.heap.size A1 q c1 (l.flatMap cellsS) rfl HR4.out (secs_one _) (by unfold maxLen; have := HQL.out; omega) (by have := HQL.out; omega) HSZ.out ?_; intro v5 w5 hown5 hgrow5 _; rw [Nat.zero_add, List.nil_append] at hown5; have hb5 := below_slot HB4.out hgrow5 HSZ.out HSZR.out; obtain ⟨bo, co, rfl⟩ := own_some hown5 HQ0.out; have HO5 := Lib.hid hown5; have HB5 := Lib.hid hb5; obtain ⟨w6, hw6⟩ : ∃ w6, w5.alloc (.cells (mbL ws mk n 0).toArray 4) = w6 := ⟨_, rfl⟩; have hmb := HMB.out w5; rw [hw6] at hmb; have HMK6 := Lib.hid hmb; have HW6 := Lib.hid hw6; clear hown5 hgrow5 hb5 hw6 hmb))
        | (with_reducible show wpList _ _ _ (Oper.mk (some 54) _ _ _ _ _ :: _) _ _; go_must (refine wpList_wrun rfl _ (run_mkSlice (L := .int .i64 n) (C := .int .i64 n) rfl rfl rfl HMK6.out) ?_)))
      obtain ⟨gm, hgm⟩ : ∃ gm, gm = w5.heap.size := ⟨_, rfl⟩
      rw [← hgm]
      have HS6 : Hid (SetR w w6 gm (mbL ws mk n 0) (.slice (some ⟨bo, 0, none⟩) q co) (safeN ws mk l 0)) := Lib.hid ⟨by
        have := HO5.out.alloc (.cells (mbL ws mk n 0).toArray 4)
        rw [HW6.out] at this
        rw [safeN_len, ← HQ.out]; exact this, by rw [hgm, ← HW6.out]; exact Blk.new w5 4 _, by rw [hgm]; exact HB5.out.size, by rw [← HW6.out]; exact HB5.out.alloc HB5.out.size _⟩
      clear hgm
      clear HW6 HMK6 HO5 HB5 HI HZ HS HBY HZS HLIT HBL HR4 HMB
      go_loopw [13] (fun i wr => ∃ k : Nat, k ≤ n ∧ i = .int .i64 k ∧ Hid (SetR w wr gm (mbL ws mk n k) (.slice (some ⟨bo, 0, none⟩) q co) (safeN ws mk l k))) (fun i _ => n - (intOf i).toNat)
      case atStart => exact ⟨0, by omega, rfl, HS6⟩
      case round =>
        obtain ⟨k, hk, rfl, HSR⟩ := hrel
        by_cases hlt : k < n
        · obtain ⟨x, hx⟩ : ∃ x, ws[k]? = some x := ⟨_, List.getElem?_eq_getElem (by rw [← HN.out]; exact hlt)⟩
          obtain ⟨bb, o, rfl, hbb, hit⟩ := (HR2.out.below HSR.out.below).item (f := cellsW) cellsW_len (by omega) (k := k) (by rw [← HN.out]; exact hlt)
          have hra := hit k x hx
          have HRA := Lib.hid hra
          have HTG := Lib.hid (rangeAt_part hra 33 _ (fun j v hj => by have := cellsW_tg x j v hj; simpa using this) : wr.rangeAt bb (o + k * 36 + 33) (cellsT x.tg))
          have HEP : Hid (wr.cell? ⟨bb, o + k * 36 + 35, none⟩ = some (.int .i64 x.ep)) := Lib.hid (hra 35 _ (cellsW_ep x))
          have HBB : Hid (bb < w.heap.size) := Lib.hid hbb
          have HAT := Lib.hid (HOK.out x (List.mem_of_getElem? hx))
          have HX := Lib.hid hx
          obtain ⟨mm, hmm⟩ : ∃ m, decide (x.tg ∈ ts) = m := ⟨_, rfl⟩
          obtain ⟨gg, hgg⟩ : ∃ g, decide (x.ep < pe) = g := ⟨_, rfl⟩
          have HMX : Hid (mk x = (mm || (ps && gg))) := Lib.hid (by rw [HMK.out]; unfold madeB; rw [hmm, hgg])
          have hcc := HC.out wr x HSR.out.below
          rw [hmm] at hcc
          have HCC := Lib.hid hcc
          have HLS : Hid (∀ W, (binOp .lss 3 (.int .i64 x.ep) (.int .i64 pe)).run Try.prog W = .ok (.bool gg) W) := Lib.hid (fun W => by rw [lssI, hgg])
          obtain ⟨mx, hmx⟩ : ∃ b, b = mk x := ⟨_, rfl⟩
          have HMXE := Lib.hid hmx
          have hl1 : (k : Int) < (n : Int) := by omega
          clear hx hbb hit hra hmm hgg hcc hmx
          cases mm <;> cases ps <;> cases gg
          · go_wp2_with (first
              | (with_reducible show wpList _ _ _ (Oper.mk _ (Op.load 69 _) _ _ _ _ :: _) _ _; go_must (refine wpList_wrun rfl _ (Ph.run_load (X := .pointer (some ⟨bb, o + k * 36 + 33, none⟩)) rfl rfl (ldTm HTG.out)) ?_)))
            refine HCC.out.mono ?_
            rintro o' w2 ⟨rfl, hb2⟩
            have hS2 := HSR.out.grow hb2
            have HRA2 := Lib.hid (rangeAt_below HRA.out hb2 (Nat.lt_of_lt_of_le HBB.out HSR.out.below.size))
            have c35 : w2.cell? ⟨bb, o + k * 36 + 35, none⟩ = some (.int .i64 x.ep) := (hb2.cell (p := ⟨bb, _, none⟩) (Nat.lt_of_lt_of_le HBB.out HSR.out.below.size)).trans HEP.out
            have hmlen : k < (mbL ws mk n k).length := by rw [mbL_len ws mk HN.out.symm (by omega)]; exact hlt
            have hst := st4b (b := mx) (hS2.made.list (List.getElem?_eq_getElem hmlen)) (hS2.made.frozen k)
            have hS3 := hS2.mark k (.bool mx)
            obtain ⟨w3, hw3⟩ : ∃ w3, w2.setCell ⟨gm, k, none⟩ (.bool mx) = w3 := ⟨_, rfl⟩
            rw [hw3] at hst hS3
            have hra3 : w3.rangeAt bb (o + k * 36) (cellsW x) := rangeAt_below HRA2.out (B := w.heap.size) (by rw [← hw3]; exact (Below.refl _ w2).setCell (p := ⟨gm, k, none⟩) HSR.out.low _) HBB.out
            have hmset : (mbL ws mk n k).set k (.bool mx) = mbL ws mk n (k + 1) := by rw [HMXE.out]; exact mbL_set HN.out.symm HX.out
            rw [hmset] at hS3
            have cm : w3.cell? ⟨gm, k, none⟩ = some (.bool mx) := by
              have := mbL_at (mk := mk) (n := n) (k := k + 1) HX.out (by omega)
              rw [HMXE.out]; exact hS3.made.list this
            have HST := Lib.hid hst
            have HS3 := Lib.hid hS3
            have HRA3 := Lib.hid hra3
            have hmv : mx = false := by rw [HMXE.out, HMX.out]; rfl
            clear hb2 hS2 hmlen hst hS3 hw3 hra3 hmset
            subst hmv
            go_wp2_with (first
              | (with_reducible show wpList _ _ _ (Oper.mk (some 79) _ _ _ _ _ :: _) _ _; go_must (refine wpList_wrun rfl _ (Ph.run_bin (X := .int .i64 x.ep) (Y := .int .i64 pe) rfl rfl rfl rfl (HLS.out _)) ?_))
              | (with_reducible show wpList _ _ _ (Oper.mk none (Op.store 4 _ _) _ _ _ _ :: _) _ _; go_must (refine wpList_done rfl w3 (Ph.run_store (X := .pointer (some ⟨gm, k, none⟩)) (Y := .bool false) rfl rfl rfl HST.out) ?_)))
            exact ⟨⟨k + 1, by omega, by go_num, Lib.hid (by rw [safeN_no HX.out (by rw [← HMXE.out])]; exact HS3.out)⟩, by simp [intOf]; omega⟩
          · go_wp2_with (first
              | (with_reducible show wpList _ _ _ (Oper.mk _ (Op.load 69 _) _ _ _ _ :: _) _ _; go_must (refine wpList_wrun rfl _ (Ph.run_load (X := .pointer (some ⟨bb, o + k * 36 + 33, none⟩)) rfl rfl (ldTm HTG.out)) ?_)))
            refine HCC.out.mono ?_
            rintro o' w2 ⟨rfl, hb2⟩
            have hS2 := HSR.out.grow hb2
            have HRA2 := Lib.hid (rangeAt_below HRA.out hb2 (Nat.lt_of_lt_of_le HBB.out HSR.out.below.size))
            have c35 : w2.cell? ⟨bb, o + k * 36 + 35, none⟩ = some (.int .i64 x.ep) := (hb2.cell (p := ⟨bb, _, none⟩) (Nat.lt_of_lt_of_le HBB.out HSR.out.below.size)).trans HEP.out
            have hmlen : k < (mbL ws mk n k).length := by rw [mbL_len ws mk HN.out.symm (by omega)]; exact hlt
            have hst := st4b (b := mx) (hS2.made.list (List.getElem?_eq_getElem hmlen)) (hS2.made.frozen k)
            have hS3 := hS2.mark k (.bool mx)
            obtain ⟨w3, hw3⟩ : ∃ w3, w2.setCell ⟨gm, k, none⟩ (.bool mx) = w3 := ⟨_, rfl⟩
            rw [hw3] at hst hS3
            have hra3 : w3.rangeAt bb (o + k * 36) (cellsW x) := rangeAt_below HRA2.out (B := w.heap.size) (by rw [← hw3]; exact (Below.refl _ w2).setCell (p := ⟨gm, k, none⟩) HSR.out.low _) HBB.out
            have hmset : (mbL ws mk n k).set k (.bool mx) = mbL ws mk n (k + 1) := by rw [HMXE.out]; exact mbL_set HN.out.symm HX.out
            rw [hmset] at hS3
            have cm : w3.cell? ⟨gm, k, none⟩ = some (.bool mx) := by
              have := mbL_at (mk := mk) (n := n) (k := k + 1) HX.out (by omega)
              rw [HMXE.out]; exact hS3.made.list this
            have HST := Lib.hid hst
            have HS3 := Lib.hid hS3
            have HRA3 := Lib.hid hra3
            have hmv : mx = false := by rw [HMXE.out, HMX.out]; rfl
            clear hb2 hS2 hmlen hst hS3 hw3 hra3 hmset
            subst hmv
            go_wp2_with (first
              | (with_reducible show wpList _ _ _ (Oper.mk (some 79) _ _ _ _ _ :: _) _ _; go_must (refine wpList_wrun rfl _ (Ph.run_bin (X := .int .i64 x.ep) (Y := .int .i64 pe) rfl rfl rfl rfl (HLS.out _)) ?_))
              | (with_reducible show wpList _ _ _ (Oper.mk none (Op.store 4 _ _) _ _ _ _ :: _) _ _; go_must (refine wpList_done rfl w3 (Ph.run_store (X := .pointer (some ⟨gm, k, none⟩)) (Y := .bool false) rfl rfl rfl HST.out) ?_)))
            exact ⟨⟨k + 1, by omega, by go_num, Lib.hid (by rw [safeN_no HX.out (by rw [← HMXE.out])]; exact HS3.out)⟩, by simp [intOf]; omega⟩
          · go_wp2_with (first
              | (with_reducible show wpList _ _ _ (Oper.mk _ (Op.load 69 _) _ _ _ _ :: _) _ _; go_must (refine wpList_wrun rfl _ (Ph.run_load (X := .pointer (some ⟨bb, o + k * 36 + 33, none⟩)) rfl rfl (ldTm HTG.out)) ?_)))
            refine HCC.out.mono ?_
            rintro o' w2 ⟨rfl, hb2⟩
            have hS2 := HSR.out.grow hb2
            have HRA2 := Lib.hid (rangeAt_below HRA.out hb2 (Nat.lt_of_lt_of_le HBB.out HSR.out.below.size))
            have c35 : w2.cell? ⟨bb, o + k * 36 + 35, none⟩ = some (.int .i64 x.ep) := (hb2.cell (p := ⟨bb, _, none⟩) (Nat.lt_of_lt_of_le HBB.out HSR.out.below.size)).trans HEP.out
            have hmlen : k < (mbL ws mk n k).length := by rw [mbL_len ws mk HN.out.symm (by omega)]; exact hlt
            have hst := st4b (b := mx) (hS2.made.list (List.getElem?_eq_getElem hmlen)) (hS2.made.frozen k)
            have hS3 := hS2.mark k (.bool mx)
            obtain ⟨w3, hw3⟩ : ∃ w3, w2.setCell ⟨gm, k, none⟩ (.bool mx) = w3 := ⟨_, rfl⟩
            rw [hw3] at hst hS3
            have hra3 : w3.rangeAt bb (o + k * 36) (cellsW x) := rangeAt_below HRA2.out (B := w.heap.size) (by rw [← hw3]; exact (Below.refl _ w2).setCell (p := ⟨gm, k, none⟩) HSR.out.low _) HBB.out
            have hmset : (mbL ws mk n k).set k (.bool mx) = mbL ws mk n (k + 1) := by rw [HMXE.out]; exact mbL_set HN.out.symm HX.out
            rw [hmset] at hS3
            have cm : w3.cell? ⟨gm, k, none⟩ = some (.bool mx) := by
              have := mbL_at (mk := mk) (n := n) (k := k + 1) HX.out (by omega)
              rw [HMXE.out]; exact hS3.made.list this
            have HST := Lib.hid hst
            have HS3 := Lib.hid hS3
            have HRA3 := Lib.hid hra3
            have hmv : mx = false := by rw [HMXE.out, HMX.out]; rfl
            clear hb2 hS2 hmlen hst hS3 hw3 hra3 hmset
            subst hmv
            go_wp2_with (first
              | (with_reducible show wpList _ _ _ (Oper.mk (some 79) _ _ _ _ _ :: _) _ _; go_must (refine wpList_wrun rfl _ (Ph.run_bin (X := .int .i64 x.ep) (Y := .int .i64 pe) rfl rfl rfl rfl (HLS.out _)) ?_))
              | (with_reducible show wpList _ _ _ (Oper.mk none (Op.store 4 _ _) _ _ _ _ :: _) _ _; go_must (refine wpList_done rfl w3 (Ph.run_store (X := .pointer (some ⟨gm, k, none⟩)) (Y := .bool false) rfl rfl rfl HST.out) ?_)))
            exact ⟨⟨k + 1, by omega, by go_num, Lib.hid (by rw [safeN_no HX.out (by rw [← HMXE.out])]; exact HS3.out)⟩, by simp [intOf]; omega⟩
          · go_wp2_with (first
              | (with_reducible show wpList _ _ _ (Oper.mk _ (Op.load 69 _) _ _ _ _ :: _) _ _; go_must (refine wpList_wrun rfl _ (Ph.run_load (X := .pointer (some ⟨bb, o + k * 36 + 33, none⟩)) rfl rfl (ldTm HTG.out)) ?_)))
            refine HCC.out.mono ?_
            rintro o' w2 ⟨rfl, hb2⟩
            have hS2 := HSR.out.grow hb2
            have HRA2 := Lib.hid (rangeAt_below HRA.out hb2 (Nat.lt_of_lt_of_le HBB.out HSR.out.below.size))
            have c35 : w2.cell? ⟨bb, o + k * 36 + 35, none⟩ = some (.int .i64 x.ep) := (hb2.cell (p := ⟨bb, _, none⟩) (Nat.lt_of_lt_of_le HBB.out HSR.out.below.size)).trans HEP.out
            have hmlen : k < (mbL ws mk n k).length := by rw [mbL_len ws mk HN.out.symm (by omega)]; exact hlt
            have hst := st4b (b := mx) (hS2.made.list (List.getElem?_eq_getElem hmlen)) (hS2.made.frozen k)
            have hS3 := hS2.mark k (.bool mx)
            obtain ⟨w3, hw3⟩ : ∃ w3, w2.setCell ⟨gm, k, none⟩ (.bool mx) = w3 := ⟨_, rfl⟩
            rw [hw3] at hst hS3
            have hra3 : w3.rangeAt bb (o + k * 36) (cellsW x) := rangeAt_below HRA2.out (B := w.heap.size) (by rw [← hw3]; exact (Below.refl _ w2).setCell (p := ⟨gm, k, none⟩) HSR.out.low _) HBB.out
            have hmset : (mbL ws mk n k).set k (.bool mx) = mbL ws mk n (k + 1) := by rw [HMXE.out]; exact mbL_set HN.out.symm HX.out
            rw [hmset] at hS3
            have cm : w3.cell? ⟨gm, k, none⟩ = some (.bool mx) := by
              have := mbL_at (mk := mk) (n := n) (k := k + 1) HX.out (by omega)
              rw [HMXE.out]; exact hS3.made.list this
            have HST := Lib.hid hst
            have HS3 := Lib.hid hS3
            have HRA3 := Lib.hid hra3
            have hmv : mx = true := by rw [HMXE.out, HMX.out]; rfl
            clear hb2 hS2 hmlen hst hS3 hw3 hra3 hmset
            subst hmv
            go_wp2_with (first
              | (with_reducible show wpList _ _ _ (Oper.mk (some 79) _ _ _ _ _ :: _) _ _; go_must (refine wpList_wrun rfl _ (Ph.run_bin (X := .int .i64 x.ep) (Y := .int .i64 pe) rfl rfl rfl rfl (HLS.out _)) ?_))
              | (with_reducible show wpList _ _ _ (Oper.mk none (Op.store 4 _ _) _ _ _ _ :: _) _ _; go_must (refine wpList_done rfl w3 (Ph.run_store (X := .pointer (some ⟨gm, k, none⟩)) (Y := .bool true) rfl rfl rfl HST.out) ?_)))
            have hat2 : 0 ≤ x.at_ ∧ x.at_ < l.length := by have := HAT.out; simpa [atIn] using this
            obtain ⟨a0, ha0⟩ : ∃ a0 : Nat, x.at_ = a0 := ⟨x.at_.toNat, by omega⟩
            have haq : (a0 : Int) < (q : Int) := by have := HQ.out; omega
            have HA0 := Lib.hid ha0
            have HCA : Hid (w3.cell? ⟨bb, o + k * 36, none⟩ = some (.int .i64 (a0 : Nat))) := Lib.hid (by have := HRA3.out 0 _ (cellsW_at x); rw [ha0] at this; exact this)
            have HSX := Lib.hid (rangeAt_part HRA3.out 1 _ (cellsW_s x))
            have HBB3 : Hid (bb < w3.heap.size) := Lib.hid (Nat.lt_of_lt_of_le HBB.out HS3.out.below.size)
            clear hat2 ha0
            refine wp_region_quiet_tail (fun W => Below w3.heap.size w3 W) 12 (by kernel_rfl) (by kernel_rfl) ((Below.refl _ w3).drew) ?_
            simp only [List.take_succ_cons, List.take_zero, List.drop_succ_cons, List.drop_zero]
            try go_frame
            repeat (first | go_big_quiet_skip | (go_big_quiet_want; first
              | (with_reducible show Oper.quiet _ (Oper.mk (some 90) _ _ _ _ _) _ _ _; refine quiet_value (.pointer (some ⟨bb, o + k * 36, none⟩)) (fun W _ => by go_simp) ?_; go_frame; go_big_quiet_on)
              | (with_reducible show Oper.quiet _ (Oper.mk (some 91) _ _ _ _ _) _ _ _; refine quiet_value (.pointer (some ⟨bb, o + k * 36, none⟩)) (fun W _ => by go_simp) ?_; go_frame; go_big_quiet_on)
              | (with_reducible show Oper.quiet _ (Oper.mk (some 92) _ _ _ _ _) _ _ _; refine quiet_load_one 3 (.tmp 91) rfl bb (o + k * 36) rfl (.int .i64 (a0 : Nat)) (fun W hW => ld3 ((hW.cell (p := ⟨bb, _, none⟩) HBB3.out).trans HCA.out)) ?_; go_frame; go_big_quiet_on)
              | (with_reducible show Oper.quiet _ (Oper.mk (some 95) _ _ _ _ _) _ _ _; refine quiet_value (.pointer (some ⟨bb, o + k * 36, none⟩)) (fun W _ => by go_simp) ?_; go_frame; go_big_quiet_on)
              | (with_reducible show Oper.quiet _ (Oper.mk (some 96) _ _ _ _ _) _ _ _; refine quiet_value (.pointer (some ⟨bb, o + k * 36 + 1, none⟩)) (fun W _ => by go_simp) ?_; go_frame; go_big_quiet_on)
              | (with_reducible show Oper.quiet _ (Oper.mk (some 97) _ _ _ _ _) _ _ _; refine quiet_load_mid 66 (.tmp 96) rfl bb (o + k * 36 + 1) rfl (cellsS x.s) _ (fun W hW => rangeAt_below HSX.out hW HBB3.out) Try.underlying66 rfl (by rw [cellsS_len]; exact info66) ?_; go_frame; go_big_quiet_on)
              | (with_reducible show Oper.quiet _ (Oper.mk (some 98) _ _ _ _ _) _ _ _; refine quiet_value (.pointer (some ⟨bo, a0 * 32, none⟩)) (fun W _ => by go_simp) ?_; go_frame; go_big_quiet_on)
              | (go_big_quiet_op; go_big_quiet_on)))
            refine wpQuiet_nil ?_
            intro w7 hw7
            have HS7 := Lib.hid (HS3.out.grow hw7)
            have ho7 := HS7.out.out
            rw [safeN_len, ← HQ.out] at ho7
            have HO7 := Lib.hid ho7
            have HFIT : Hid (a0 * 32 + (cellsS x.s).length ≤ q * 32) := Lib.hid (by rw [cellsS_len]; omega)
            have HAL : Hid (a0 < (safeN ws mk l k).length) := Lib.hid (by rw [safeN_len, ← HQ.out]; omega)
            clear hw7 ho7
            go_wp2_with (with_reducible show wpList _ _ _ (Oper.mk none (Op.store 66 _ _) _ _ _ _ :: _) _ _; go_must (refine wpList_store_own rfl 66 (.tmp 98) (.tmp 97) rfl HO7.out (a0 * 32) (cellsS x.s) rfl rfl HFIT.out (by rw [cellsS_len]; exact info66) (cellsS_one _) ?_; intro w8 ho8 hg8 hs8; have HO8 := Lib.hid ho8; have HG8 := Lib.hid hg8; clear ho8 hg8 hs8))
            refine ⟨⟨k + 1, by omega, by go_num, Lib.hid ?_⟩, by simp [intOf]; omega⟩
            have ho8 := HO8.out
            rw [← cat_set cellsS 32 cellsS_len _ a0 x.s HAL.out] at ho8
            have e8 : safeN ws mk l (k + 1) = (safeN ws mk l k).set a0 x.s := by rw [safeN_yes HX.out (by rw [← HMXE.out]), HA0.out]; rfl
            rw [e8]
            exact HS7.out.put (by rw [List.length_set, safeN_len, ← HQ.out]; exact ho8) HG8.out
          · go_wp2_with (first
              | (with_reducible show wpList _ _ _ (Oper.mk _ (Op.load 69 _) _ _ _ _ :: _) _ _; go_must (refine wpList_wrun rfl _ (Ph.run_load (X := .pointer (some ⟨bb, o + k * 36 + 33, none⟩)) rfl rfl (ldTm HTG.out)) ?_)))
            refine HCC.out.mono ?_
            rintro o' w2 ⟨rfl, hb2⟩
            have hS2 := HSR.out.grow hb2
            have HRA2 := Lib.hid (rangeAt_below HRA.out hb2 (Nat.lt_of_lt_of_le HBB.out HSR.out.below.size))
            have c35 : w2.cell? ⟨bb, o + k * 36 + 35, none⟩ = some (.int .i64 x.ep) := (hb2.cell (p := ⟨bb, _, none⟩) (Nat.lt_of_lt_of_le HBB.out HSR.out.below.size)).trans HEP.out
            have hmlen : k < (mbL ws mk n k).length := by rw [mbL_len ws mk HN.out.symm (by omega)]; exact hlt
            have hst := st4b (b := mx) (hS2.made.list (List.getElem?_eq_getElem hmlen)) (hS2.made.frozen k)
            have hS3 := hS2.mark k (.bool mx)
            obtain ⟨w3, hw3⟩ : ∃ w3, w2.setCell ⟨gm, k, none⟩ (.bool mx) = w3 := ⟨_, rfl⟩
            rw [hw3] at hst hS3
            have hra3 : w3.rangeAt bb (o + k * 36) (cellsW x) := rangeAt_below HRA2.out (B := w.heap.size) (by rw [← hw3]; exact (Below.refl _ w2).setCell (p := ⟨gm, k, none⟩) HSR.out.low _) HBB.out
            have hmset : (mbL ws mk n k).set k (.bool mx) = mbL ws mk n (k + 1) := by rw [HMXE.out]; exact mbL_set HN.out.symm HX.out
            rw [hmset] at hS3
            have cm : w3.cell? ⟨gm, k, none⟩ = some (.bool mx) := by
              have := mbL_at (mk := mk) (n := n) (k := k + 1) HX.out (by omega)
              rw [HMXE.out]; exact hS3.made.list this
            have HST := Lib.hid hst
            have HS3 := Lib.hid hS3
            have HRA3 := Lib.hid hra3
            have hmv : mx = true := by rw [HMXE.out, HMX.out]; rfl
            clear hb2 hS2 hmlen hst hS3 hw3 hra3 hmset
            subst hmv
            go_wp2_with (first
              | (with_reducible show wpList _ _ _ (Oper.mk (some 79) _ _ _ _ _ :: _) _ _; go_must (refine wpList_wrun rfl _ (Ph.run_bin (X := .int .i64 x.ep) (Y := .int .i64 pe) rfl rfl rfl rfl (HLS.out _)) ?_))
              | (with_reducible show wpList _ _ _ (Oper.mk none (Op.store 4 _ _) _ _ _ _ :: _) _ _; go_must (refine wpList_done rfl w3 (Ph.run_store (X := .pointer (some ⟨gm, k, none⟩)) (Y := .bool true) rfl rfl rfl HST.out) ?_)))
            have hat2 : 0 ≤ x.at_ ∧ x.at_ < l.length := by have := HAT.out; simpa [atIn] using this
            obtain ⟨a0, ha0⟩ : ∃ a0 : Nat, x.at_ = a0 := ⟨x.at_.toNat, by omega⟩
            have haq : (a0 : Int) < (q : Int) := by have := HQ.out; omega
            have HA0 := Lib.hid ha0
            have HCA : Hid (w3.cell? ⟨bb, o + k * 36, none⟩ = some (.int .i64 (a0 : Nat))) := Lib.hid (by have := HRA3.out 0 _ (cellsW_at x); rw [ha0] at this; exact this)
            have HSX := Lib.hid (rangeAt_part HRA3.out 1 _ (cellsW_s x))
            have HBB3 : Hid (bb < w3.heap.size) := Lib.hid (Nat.lt_of_lt_of_le HBB.out HS3.out.below.size)
            clear hat2 ha0
            refine wp_region_quiet_tail (fun W => Below w3.heap.size w3 W) 12 (by kernel_rfl) (by kernel_rfl) ((Below.refl _ w3).drew) ?_
            simp only [List.take_succ_cons, List.take_zero, List.drop_succ_cons, List.drop_zero]
            try go_frame
            repeat (first | go_big_quiet_skip | (go_big_quiet_want; first
              | (with_reducible show Oper.quiet _ (Oper.mk (some 90) _ _ _ _ _) _ _ _; refine quiet_value (.pointer (some ⟨bb, o + k * 36, none⟩)) (fun W _ => by go_simp) ?_; go_frame; go_big_quiet_on)
              | (with_reducible show Oper.quiet _ (Oper.mk (some 91) _ _ _ _ _) _ _ _; refine quiet_value (.pointer (some ⟨bb, o + k * 36, none⟩)) (fun W _ => by go_simp) ?_; go_frame; go_big_quiet_on)
              | (with_reducible show Oper.quiet _ (Oper.mk (some 92) _ _ _ _ _) _ _ _; refine quiet_load_one 3 (.tmp 91) rfl bb (o + k * 36) rfl (.int .i64 (a0 : Nat)) (fun W hW => ld3 ((hW.cell (p := ⟨bb, _, none⟩) HBB3.out).trans HCA.out)) ?_; go_frame; go_big_quiet_on)
              | (with_reducible show Oper.quiet _ (Oper.mk (some 95) _ _ _ _ _) _ _ _; refine quiet_value (.pointer (some ⟨bb, o + k * 36, none⟩)) (fun W _ => by go_simp) ?_; go_frame; go_big_quiet_on)
              | (with_reducible show Oper.quiet _ (Oper.mk (some 96) _ _ _ _ _) _ _ _; refine quiet_value (.pointer (some ⟨bb, o + k * 36 + 1, none⟩)) (fun W _ => by go_simp) ?_; go_frame; go_big_quiet_on)
              | (with_reducible show Oper.quiet _ (Oper.mk (some 97) _ _ _ _ _) _ _ _; refine quiet_load_mid 66 (.tmp 96) rfl bb (o + k * 36 + 1) rfl (cellsS x.s) _ (fun W hW => rangeAt_below HSX.out hW HBB3.out) Try.underlying66 rfl (by rw [cellsS_len]; exact info66) ?_; go_frame; go_big_quiet_on)
              | (with_reducible show Oper.quiet _ (Oper.mk (some 98) _ _ _ _ _) _ _ _; refine quiet_value (.pointer (some ⟨bo, a0 * 32, none⟩)) (fun W _ => by go_simp) ?_; go_frame; go_big_quiet_on)
              | (go_big_quiet_op; go_big_quiet_on)))
            refine wpQuiet_nil ?_
            intro w7 hw7
            have HS7 := Lib.hid (HS3.out.grow hw7)
            have ho7 := HS7.out.out
            rw [safeN_len, ← HQ.out] at ho7
            have HO7 := Lib.hid ho7
            have HFIT : Hid (a0 * 32 + (cellsS x.s).length ≤ q * 32) := Lib.hid (by rw [cellsS_len]; omega)
            have HAL : Hid (a0 < (safeN ws mk l k).length) := Lib.hid (by rw [safeN_len, ← HQ.out]; omega)
            clear hw7 ho7
            go_wp2_with (with_reducible show wpList _ _ _ (Oper.mk none (Op.store 66 _ _) _ _ _ _ :: _) _ _; go_must (refine wpList_store_own rfl 66 (.tmp 98) (.tmp 97) rfl HO7.out (a0 * 32) (cellsS x.s) rfl rfl HFIT.out (by rw [cellsS_len]; exact info66) (cellsS_one _) ?_; intro w8 ho8 hg8 hs8; have HO8 := Lib.hid ho8; have HG8 := Lib.hid hg8; clear ho8 hg8 hs8))
            refine ⟨⟨k + 1, by omega, by go_num, Lib.hid ?_⟩, by simp [intOf]; omega⟩
            have ho8 := HO8.out
            rw [← cat_set cellsS 32 cellsS_len _ a0 x.s HAL.out] at ho8
            have e8 : safeN ws mk l (k + 1) = (safeN ws mk l k).set a0 x.s := by rw [safeN_yes HX.out (by rw [← HMXE.out]), HA0.out]; rfl
            rw [e8]
            exact HS7.out.put (by rw [List.length_set, safeN_len, ← HQ.out]; exact ho8) HG8.out
          · go_wp2_with (first
              | (with_reducible show wpList _ _ _ (Oper.mk _ (Op.load 69 _) _ _ _ _ :: _) _ _; go_must (refine wpList_wrun rfl _ (Ph.run_load (X := .pointer (some ⟨bb, o + k * 36 + 33, none⟩)) rfl rfl (ldTm HTG.out)) ?_)))
            refine HCC.out.mono ?_
            rintro o' w2 ⟨rfl, hb2⟩
            have hS2 := HSR.out.grow hb2
            have HRA2 := Lib.hid (rangeAt_below HRA.out hb2 (Nat.lt_of_lt_of_le HBB.out HSR.out.below.size))
            have c35 : w2.cell? ⟨bb, o + k * 36 + 35, none⟩ = some (.int .i64 x.ep) := (hb2.cell (p := ⟨bb, _, none⟩) (Nat.lt_of_lt_of_le HBB.out HSR.out.below.size)).trans HEP.out
            have hmlen : k < (mbL ws mk n k).length := by rw [mbL_len ws mk HN.out.symm (by omega)]; exact hlt
            have hst := st4b (b := mx) (hS2.made.list (List.getElem?_eq_getElem hmlen)) (hS2.made.frozen k)
            have hS3 := hS2.mark k (.bool mx)
            obtain ⟨w3, hw3⟩ : ∃ w3, w2.setCell ⟨gm, k, none⟩ (.bool mx) = w3 := ⟨_, rfl⟩
            rw [hw3] at hst hS3
            have hra3 : w3.rangeAt bb (o + k * 36) (cellsW x) := rangeAt_below HRA2.out (B := w.heap.size) (by rw [← hw3]; exact (Below.refl _ w2).setCell (p := ⟨gm, k, none⟩) HSR.out.low _) HBB.out
            have hmset : (mbL ws mk n k).set k (.bool mx) = mbL ws mk n (k + 1) := by rw [HMXE.out]; exact mbL_set HN.out.symm HX.out
            rw [hmset] at hS3
            have cm : w3.cell? ⟨gm, k, none⟩ = some (.bool mx) := by
              have := mbL_at (mk := mk) (n := n) (k := k + 1) HX.out (by omega)
              rw [HMXE.out]; exact hS3.made.list this
            have HST := Lib.hid hst
            have HS3 := Lib.hid hS3
            have HRA3 := Lib.hid hra3
            have hmv : mx = true := by rw [HMXE.out, HMX.out]; rfl
            clear hb2 hS2 hmlen hst hS3 hw3 hra3 hmset
            subst hmv
            go_wp2_with (first
              | (with_reducible show wpList _ _ _ (Oper.mk (some 79) _ _ _ _ _ :: _) _ _; go_must (refine wpList_wrun rfl _ (Ph.run_bin (X := .int .i64 x.ep) (Y := .int .i64 pe) rfl rfl rfl rfl (HLS.out _)) ?_))
              | (with_reducible show wpList _ _ _ (Oper.mk none (Op.store 4 _ _) _ _ _ _ :: _) _ _; go_must (refine wpList_done rfl w3 (Ph.run_store (X := .pointer (some ⟨gm, k, none⟩)) (Y := .bool true) rfl rfl rfl HST.out) ?_)))
            have hat2 : 0 ≤ x.at_ ∧ x.at_ < l.length := by have := HAT.out; simpa [atIn] using this
            obtain ⟨a0, ha0⟩ : ∃ a0 : Nat, x.at_ = a0 := ⟨x.at_.toNat, by omega⟩
            have haq : (a0 : Int) < (q : Int) := by have := HQ.out; omega
            have HA0 := Lib.hid ha0
            have HCA : Hid (w3.cell? ⟨bb, o + k * 36, none⟩ = some (.int .i64 (a0 : Nat))) := Lib.hid (by have := HRA3.out 0 _ (cellsW_at x); rw [ha0] at this; exact this)
            have HSX := Lib.hid (rangeAt_part HRA3.out 1 _ (cellsW_s x))
            have HBB3 : Hid (bb < w3.heap.size) := Lib.hid (Nat.lt_of_lt_of_le HBB.out HS3.out.below.size)
            clear hat2 ha0
            refine wp_region_quiet_tail (fun W => Below w3.heap.size w3 W) 12 (by kernel_rfl) (by kernel_rfl) ((Below.refl _ w3).drew) ?_
            simp only [List.take_succ_cons, List.take_zero, List.drop_succ_cons, List.drop_zero]
            try go_frame
            repeat (first | go_big_quiet_skip | (go_big_quiet_want; first
              | (with_reducible show Oper.quiet _ (Oper.mk (some 90) _ _ _ _ _) _ _ _; refine quiet_value (.pointer (some ⟨bb, o + k * 36, none⟩)) (fun W _ => by go_simp) ?_; go_frame; go_big_quiet_on)
              | (with_reducible show Oper.quiet _ (Oper.mk (some 91) _ _ _ _ _) _ _ _; refine quiet_value (.pointer (some ⟨bb, o + k * 36, none⟩)) (fun W _ => by go_simp) ?_; go_frame; go_big_quiet_on)
              | (with_reducible show Oper.quiet _ (Oper.mk (some 92) _ _ _ _ _) _ _ _; refine quiet_load_one 3 (.tmp 91) rfl bb (o + k * 36) rfl (.int .i64 (a0 : Nat)) (fun W hW => ld3 ((hW.cell (p := ⟨bb, _, none⟩) HBB3.out).trans HCA.out)) ?_; go_frame; go_big_quiet_on)
              | (with_reducible show Oper.quiet _ (Oper.mk (some 95) _ _ _ _ _) _ _ _; refine quiet_value (.pointer (some ⟨bb, o + k * 36, none⟩)) (fun W _ => by go_simp) ?_; go_frame; go_big_quiet_on)
              | (with_reducible show Oper.quiet _ (Oper.mk (some 96) _ _ _ _ _) _ _ _; refine quiet_value (.pointer (some ⟨bb, o + k * 36 + 1, none⟩)) (fun W _ => by go_simp) ?_; go_frame; go_big_quiet_on)
              | (with_reducible show Oper.quiet _ (Oper.mk (some 97) _ _ _ _ _) _ _ _; refine quiet_load_mid 66 (.tmp 96) rfl bb (o + k * 36 + 1) rfl (cellsS x.s) _ (fun W hW => rangeAt_below HSX.out hW HBB3.out) Try.underlying66 rfl (by rw [cellsS_len]; exact info66) ?_; go_frame; go_big_quiet_on)
              | (with_reducible show Oper.quiet _ (Oper.mk (some 98) _ _ _ _ _) _ _ _; refine quiet_value (.pointer (some ⟨bo, a0 * 32, none⟩)) (fun W _ => by go_simp) ?_; go_frame; go_big_quiet_on)
              | (go_big_quiet_op; go_big_quiet_on)))
            refine wpQuiet_nil ?_
            intro w7 hw7
            have HS7 := Lib.hid (HS3.out.grow hw7)
            have ho7 := HS7.out.out
            rw [safeN_len, ← HQ.out] at ho7
            have HO7 := Lib.hid ho7
            have HFIT : Hid (a0 * 32 + (cellsS x.s).length ≤ q * 32) := Lib.hid (by rw [cellsS_len]; omega)
            have HAL : Hid (a0 < (safeN ws mk l k).length) := Lib.hid (by rw [safeN_len, ← HQ.out]; omega)
            clear hw7 ho7
            go_wp2_with (with_reducible show wpList _ _ _ (Oper.mk none (Op.store 66 _ _) _ _ _ _ :: _) _ _; go_must (refine wpList_store_own rfl 66 (.tmp 98) (.tmp 97) rfl HO7.out (a0 * 32) (cellsS x.s) rfl rfl HFIT.out (by rw [cellsS_len]; exact info66) (cellsS_one _) ?_; intro w8 ho8 hg8 hs8; have HO8 := Lib.hid ho8; have HG8 := Lib.hid hg8; clear ho8 hg8 hs8))
            refine ⟨⟨k + 1, by omega, by go_num, Lib.hid ?_⟩, by simp [intOf]; omega⟩
            have ho8 := HO8.out
            rw [← cat_set cellsS 32 cellsS_len _ a0 x.s HAL.out] at ho8
            have e8 : safeN ws mk l (k + 1) = (safeN ws mk l k).set a0 x.s := by rw [safeN_yes HX.out (by rw [← HMXE.out]), HA0.out]; rfl
            rw [e8]
            exact HS7.out.put (by rw [List.length_set, safeN_len, ← HQ.out]; exact ho8) HG8.out
          · go_wp2_with (first
              | (with_reducible show wpList _ _ _ (Oper.mk _ (Op.load 69 _) _ _ _ _ :: _) _ _; go_must (refine wpList_wrun rfl _ (Ph.run_load (X := .pointer (some ⟨bb, o + k * 36 + 33, none⟩)) rfl rfl (ldTm HTG.out)) ?_)))
            refine HCC.out.mono ?_
            rintro o' w2 ⟨rfl, hb2⟩
            have hS2 := HSR.out.grow hb2
            have HRA2 := Lib.hid (rangeAt_below HRA.out hb2 (Nat.lt_of_lt_of_le HBB.out HSR.out.below.size))
            have c35 : w2.cell? ⟨bb, o + k * 36 + 35, none⟩ = some (.int .i64 x.ep) := (hb2.cell (p := ⟨bb, _, none⟩) (Nat.lt_of_lt_of_le HBB.out HSR.out.below.size)).trans HEP.out
            have hmlen : k < (mbL ws mk n k).length := by rw [mbL_len ws mk HN.out.symm (by omega)]; exact hlt
            have hst := st4b (b := mx) (hS2.made.list (List.getElem?_eq_getElem hmlen)) (hS2.made.frozen k)
            have hS3 := hS2.mark k (.bool mx)
            obtain ⟨w3, hw3⟩ : ∃ w3, w2.setCell ⟨gm, k, none⟩ (.bool mx) = w3 := ⟨_, rfl⟩
            rw [hw3] at hst hS3
            have hra3 : w3.rangeAt bb (o + k * 36) (cellsW x) := rangeAt_below HRA2.out (B := w.heap.size) (by rw [← hw3]; exact (Below.refl _ w2).setCell (p := ⟨gm, k, none⟩) HSR.out.low _) HBB.out
            have hmset : (mbL ws mk n k).set k (.bool mx) = mbL ws mk n (k + 1) := by rw [HMXE.out]; exact mbL_set HN.out.symm HX.out
            rw [hmset] at hS3
            have cm : w3.cell? ⟨gm, k, none⟩ = some (.bool mx) := by
              have := mbL_at (mk := mk) (n := n) (k := k + 1) HX.out (by omega)
              rw [HMXE.out]; exact hS3.made.list this
            have HST := Lib.hid hst
            have HS3 := Lib.hid hS3
            have HRA3 := Lib.hid hra3
            have hmv : mx = true := by rw [HMXE.out, HMX.out]; rfl
            clear hb2 hS2 hmlen hst hS3 hw3 hra3 hmset
            subst hmv
            go_wp2_with (first
              | (with_reducible show wpList _ _ _ (Oper.mk (some 79) _ _ _ _ _ :: _) _ _; go_must (refine wpList_wrun rfl _ (Ph.run_bin (X := .int .i64 x.ep) (Y := .int .i64 pe) rfl rfl rfl rfl (HLS.out _)) ?_))
              | (with_reducible show wpList _ _ _ (Oper.mk none (Op.store 4 _ _) _ _ _ _ :: _) _ _; go_must (refine wpList_done rfl w3 (Ph.run_store (X := .pointer (some ⟨gm, k, none⟩)) (Y := .bool true) rfl rfl rfl HST.out) ?_)))
            have hat2 : 0 ≤ x.at_ ∧ x.at_ < l.length := by have := HAT.out; simpa [atIn] using this
            obtain ⟨a0, ha0⟩ : ∃ a0 : Nat, x.at_ = a0 := ⟨x.at_.toNat, by omega⟩
            have haq : (a0 : Int) < (q : Int) := by have := HQ.out; omega
            have HA0 := Lib.hid ha0
            have HCA : Hid (w3.cell? ⟨bb, o + k * 36, none⟩ = some (.int .i64 (a0 : Nat))) := Lib.hid (by have := HRA3.out 0 _ (cellsW_at x); rw [ha0] at this; exact this)
            have HSX := Lib.hid (rangeAt_part HRA3.out 1 _ (cellsW_s x))
            have HBB3 : Hid (bb < w3.heap.size) := Lib.hid (Nat.lt_of_lt_of_le HBB.out HS3.out.below.size)
            clear hat2 ha0
            refine wp_region_quiet_tail (fun W => Below w3.heap.size w3 W) 12 (by kernel_rfl) (by kernel_rfl) ((Below.refl _ w3).drew) ?_
            simp only [List.take_succ_cons, List.take_zero, List.drop_succ_cons, List.drop_zero]
            try go_frame
            repeat (first | go_big_quiet_skip | (go_big_quiet_want; first
              | (with_reducible show Oper.quiet _ (Oper.mk (some 90) _ _ _ _ _) _ _ _; refine quiet_value (.pointer (some ⟨bb, o + k * 36, none⟩)) (fun W _ => by go_simp) ?_; go_frame; go_big_quiet_on)
              | (with_reducible show Oper.quiet _ (Oper.mk (some 91) _ _ _ _ _) _ _ _; refine quiet_value (.pointer (some ⟨bb, o + k * 36, none⟩)) (fun W _ => by go_simp) ?_; go_frame; go_big_quiet_on)
              | (with_reducible show Oper.quiet _ (Oper.mk (some 92) _ _ _ _ _) _ _ _; refine quiet_load_one 3 (.tmp 91) rfl bb (o + k * 36) rfl (.int .i64 (a0 : Nat)) (fun W hW => ld3 ((hW.cell (p := ⟨bb, _, none⟩) HBB3.out).trans HCA.out)) ?_; go_frame; go_big_quiet_on)
              | (with_reducible show Oper.quiet _ (Oper.mk (some 95) _ _ _ _ _) _ _ _; refine quiet_value (.pointer (some ⟨bb, o + k * 36, none⟩)) (fun W _ => by go_simp) ?_; go_frame; go_big_quiet_on)
              | (with_reducible show Oper.quiet _ (Oper.mk (some 96) _ _ _ _ _) _ _ _; refine quiet_value (.pointer (some ⟨bb, o + k * 36 + 1, none⟩)) (fun W _ => by go_simp) ?_; go_frame; go_big_quiet_on)
              | (with_reducible show Oper.quiet _ (Oper.mk (some 97) _ _ _ _ _) _ _ _; refine quiet_load_mid 66 (.tmp 96) rfl bb (o + k * 36 + 1) rfl (cellsS x.s) _ (fun W hW => rangeAt_below HSX.out hW HBB3.out) Try.underlying66 rfl (by rw [cellsS_len]; exact info66) ?_; go_frame; go_big_quiet_on)
              | (with_reducible show Oper.quiet _ (Oper.mk (some 98) _ _ _ _ _) _ _ _; refine quiet_value (.pointer (some ⟨bo, a0 * 32, none⟩)) (fun W _ => by go_simp) ?_; go_frame; go_big_quiet_on)
              | (go_big_quiet_op; go_big_quiet_on)))
            refine wpQuiet_nil ?_
            intro w7 hw7
            have HS7 := Lib.hid (HS3.out.grow hw7)
            have ho7 := HS7.out.out
            rw [safeN_len, ← HQ.out] at ho7
            have HO7 := Lib.hid ho7
            have HFIT : Hid (a0 * 32 + (cellsS x.s).length ≤ q * 32) := Lib.hid (by rw [cellsS_len]; omega)
            have HAL : Hid (a0 < (safeN ws mk l k).length) := Lib.hid (by rw [safeN_len, ← HQ.out]; omega)
            clear hw7 ho7
            go_wp2_with (with_reducible show wpList _ _ _ (Oper.mk none (Op.store 66 _ _) _ _ _ _ :: _) _ _; go_must (refine wpList_store_own rfl 66 (.tmp 98) (.tmp 97) rfl HO7.out (a0 * 32) (cellsS x.s) rfl rfl HFIT.out (by rw [cellsS_len]; exact info66) (cellsS_one _) ?_; intro w8 ho8 hg8 hs8; have HO8 := Lib.hid ho8; have HG8 := Lib.hid hg8; clear ho8 hg8 hs8))
            refine ⟨⟨k + 1, by omega, by go_num, Lib.hid ?_⟩, by simp [intOf]; omega⟩
            have ho8 := HO8.out
            rw [← cat_set cellsS 32 cellsS_len _ a0 x.s HAL.out] at ho8
            have e8 : safeN ws mk l (k + 1) = (safeN ws mk l k).set a0 x.s := by rw [safeN_yes HX.out (by rw [← HMXE.out]), HA0.out]; rfl
            rw [e8]
            exact HS7.out.put (by rw [List.length_set, safeN_len, ← HQ.out]; exact ho8) HG8.out
          · go_wp2_with (first
              | (with_reducible show wpList _ _ _ (Oper.mk _ (Op.load 69 _) _ _ _ _ :: _) _ _; go_must (refine wpList_wrun rfl _ (Ph.run_load (X := .pointer (some ⟨bb, o + k * 36 + 33, none⟩)) rfl rfl (ldTm HTG.out)) ?_)))
            refine HCC.out.mono ?_
            rintro o' w2 ⟨rfl, hb2⟩
            have hS2 := HSR.out.grow hb2
            have HRA2 := Lib.hid (rangeAt_below HRA.out hb2 (Nat.lt_of_lt_of_le HBB.out HSR.out.below.size))
            have c35 : w2.cell? ⟨bb, o + k * 36 + 35, none⟩ = some (.int .i64 x.ep) := (hb2.cell (p := ⟨bb, _, none⟩) (Nat.lt_of_lt_of_le HBB.out HSR.out.below.size)).trans HEP.out
            have hmlen : k < (mbL ws mk n k).length := by rw [mbL_len ws mk HN.out.symm (by omega)]; exact hlt
            have hst := st4b (b := mx) (hS2.made.list (List.getElem?_eq_getElem hmlen)) (hS2.made.frozen k)
            have hS3 := hS2.mark k (.bool mx)
            obtain ⟨w3, hw3⟩ : ∃ w3, w2.setCell ⟨gm, k, none⟩ (.bool mx) = w3 := ⟨_, rfl⟩
            rw [hw3] at hst hS3
            have hra3 : w3.rangeAt bb (o + k * 36) (cellsW x) := rangeAt_below HRA2.out (B := w.heap.size) (by rw [← hw3]; exact (Below.refl _ w2).setCell (p := ⟨gm, k, none⟩) HSR.out.low _) HBB.out
            have hmset : (mbL ws mk n k).set k (.bool mx) = mbL ws mk n (k + 1) := by rw [HMXE.out]; exact mbL_set HN.out.symm HX.out
            rw [hmset] at hS3
            have cm : w3.cell? ⟨gm, k, none⟩ = some (.bool mx) := by
              have := mbL_at (mk := mk) (n := n) (k := k + 1) HX.out (by omega)
              rw [HMXE.out]; exact hS3.made.list this
            have HST := Lib.hid hst
            have HS3 := Lib.hid hS3
            have HRA3 := Lib.hid hra3
            have hmv : mx = true := by rw [HMXE.out, HMX.out]; rfl
            clear hb2 hS2 hmlen hst hS3 hw3 hra3 hmset
            subst hmv
            go_wp2_with (first
              | (with_reducible show wpList _ _ _ (Oper.mk (some 79) _ _ _ _ _ :: _) _ _; go_must (refine wpList_wrun rfl _ (Ph.run_bin (X := .int .i64 x.ep) (Y := .int .i64 pe) rfl rfl rfl rfl (HLS.out _)) ?_))
              | (with_reducible show wpList _ _ _ (Oper.mk none (Op.store 4 _ _) _ _ _ _ :: _) _ _; go_must (refine wpList_done rfl w3 (Ph.run_store (X := .pointer (some ⟨gm, k, none⟩)) (Y := .bool true) rfl rfl rfl HST.out) ?_)))
            have hat2 : 0 ≤ x.at_ ∧ x.at_ < l.length := by have := HAT.out; simpa [atIn] using this
            obtain ⟨a0, ha0⟩ : ∃ a0 : Nat, x.at_ = a0 := ⟨x.at_.toNat, by omega⟩
            have haq : (a0 : Int) < (q : Int) := by have := HQ.out; omega
            have HA0 := Lib.hid ha0
            have HCA : Hid (w3.cell? ⟨bb, o + k * 36, none⟩ = some (.int .i64 (a0 : Nat))) := Lib.hid (by have := HRA3.out 0 _ (cellsW_at x); rw [ha0] at this; exact this)
            have HSX := Lib.hid (rangeAt_part HRA3.out 1 _ (cellsW_s x))
            have HBB3 : Hid (bb < w3.heap.size) := Lib.hid (Nat.lt_of_lt_of_le HBB.out HS3.out.below.size)
            clear hat2 ha0
            refine wp_region_quiet_tail (fun W => Below w3.heap.size w3 W) 12 (by kernel_rfl) (by kernel_rfl) ((Below.refl _ w3).drew) ?_
            simp only [List.take_succ_cons, List.take_zero, List.drop_succ_cons, List.drop_zero]
            try go_frame
            repeat (first | go_big_quiet_skip | (go_big_quiet_want; first
              | (with_reducible show Oper.quiet _ (Oper.mk (some 90) _ _ _ _ _) _ _ _; refine quiet_value (.pointer (some ⟨bb, o + k * 36, none⟩)) (fun W _ => by go_simp) ?_; go_frame; go_big_quiet_on)
              | (with_reducible show Oper.quiet _ (Oper.mk (some 91) _ _ _ _ _) _ _ _; refine quiet_value (.pointer (some ⟨bb, o + k * 36, none⟩)) (fun W _ => by go_simp) ?_; go_frame; go_big_quiet_on)
              | (with_reducible show Oper.quiet _ (Oper.mk (some 92) _ _ _ _ _) _ _ _; refine quiet_load_one 3 (.tmp 91) rfl bb (o + k * 36) rfl (.int .i64 (a0 : Nat)) (fun W hW => ld3 ((hW.cell (p := ⟨bb, _, none⟩) HBB3.out).trans HCA.out)) ?_; go_frame; go_big_quiet_on)
              | (with_reducible show Oper.quiet _ (Oper.mk (some 95) _ _ _ _ _) _ _ _; refine quiet_value (.pointer (some ⟨bb, o + k * 36, none⟩)) (fun W _ => by go_simp) ?_; go_frame; go_big_quiet_on)
              | (with_reducible show Oper.quiet _ (Oper.mk (some 96) _ _ _ _ _) _ _ _; refine quiet_value (.pointer (some ⟨bb, o + k * 36 + 1, none⟩)) (fun W _ => by go_simp) ?_; go_frame; go_big_quiet_on)
              | (with_reducible show Oper.quiet _ (Oper.mk (some 97) _ _ _ _ _) _ _ _; refine quiet_load_mid 66 (.tmp 96) rfl bb (o + k * 36 + 1) rfl (cellsS x.s) _ (fun W hW => rangeAt_below HSX.out hW HBB3.out) Try.underlying66 rfl (by rw [cellsS_len]; exact info66) ?_; go_frame; go_big_quiet_on)
              | (with_reducible show Oper.quiet _ (Oper.mk (some 98) _ _ _ _ _) _ _ _; refine quiet_value (.pointer (some ⟨bo, a0 * 32, none⟩)) (fun W _ => by go_simp) ?_; go_frame; go_big_quiet_on)
              | (go_big_quiet_op; go_big_quiet_on)))
            refine wpQuiet_nil ?_
            intro w7 hw7
            have HS7 := Lib.hid (HS3.out.grow hw7)
            have ho7 := HS7.out.out
            rw [safeN_len, ← HQ.out] at ho7
            have HO7 := Lib.hid ho7
            have HFIT : Hid (a0 * 32 + (cellsS x.s).length ≤ q * 32) := Lib.hid (by rw [cellsS_len]; omega)
            have HAL : Hid (a0 < (safeN ws mk l k).length) := Lib.hid (by rw [safeN_len, ← HQ.out]; omega)
            clear hw7 ho7
            go_wp2_with (with_reducible show wpList _ _ _ (Oper.mk none (Op.store 66 _ _) _ _ _ _ :: _) _ _; go_must (refine wpList_store_own rfl 66 (.tmp 98) (.tmp 97) rfl HO7.out (a0 * 32) (cellsS x.s) rfl rfl HFIT.out (by rw [cellsS_len]; exact info66) (cellsS_one _) ?_; intro w8 ho8 hg8 hs8; have HO8 := Lib.hid ho8; have HG8 := Lib.hid hg8; clear ho8 hg8 hs8))
            refine ⟨⟨k + 1, by omega, by go_num, Lib.hid ?_⟩, by simp [intOf]; omega⟩
            have ho8 := HO8.out
            rw [← cat_set cellsS 32 cellsS_len _ a0 x.s HAL.out] at ho8
            have e8 : safeN ws mk l (k + 1) = (safeN ws mk l k).set a0 x.s := by rw [safeN_yes HX.out (by rw [← HMXE.out]), HA0.out]; rfl
            rw [e8]
            exact HS7.out.put (by rw [List.length_set, safeN_len, ← HQ.out]; exact ho8) HG8.out
        · have hkn : n = k := by omega
          subst hkn
          go_wp2_with fail
          go_loopw [14, 15] (fun lv i wr => ∃ i' : Nat, i' ≤ n ∧ i = .int .i64 i' ∧ Hid (SetR w wr gm (mbL ws mk n n) (.slice (some ⟨bo, 0, none⟩) q co) (safeN ws mk l n)) ∧ Hid (wr.ownsRow w.heap.size 108 36 lv (leftN ws mk (lastN ws mk n) i').length ((leftN ws mk (lastN ws mk n) i').flatMap cellsW))) (fun _ i _ => n - (intOf i).toNat)
          case atStart => exact ⟨0, by omega, rfl, HSR, Lib.hid (World.ownsRow_nil _ _ _ _)⟩
          case round =>
            obtain ⟨i, hi, rfl, HT, HL⟩ := hrel
            by_cases hlt2 : i < n
            · obtain ⟨x, hx⟩ : ∃ x, ws[i]? = some x := ⟨_, List.getElem?_eq_getElem (by rw [← HN.out]; exact hlt2)⟩
              obtain ⟨bb, o, rfl, hbb, hit⟩ := (HR2.out.below HT.out.below).item (f := cellsW) cellsW_len (by omega) (k := i) (by rw [← HN.out]; exact hlt2)
              have HIT := Lib.hid hit
              have HXA : Hid (wr.cell? ⟨bb, o + i * 36, none⟩ = some (.int .i64 x.at_)) := Lib.hid (hit i x hx 0 _ (cellsW_at x))
              have HMX : Hid (wr.cell? ⟨gm, i, none⟩ = some (.bool (mk x))) := Lib.hid (HT.out.made.list (mbL_at hx hlt2))
              have HX := Lib.hid hx
              have HKB : Hid (keepB mk (lastN ws mk n) i x = (!mk x && !anyB ws mk x.at_ i n)) := Lib.hid (keepB_eq HN.out.symm)
              obtain ⟨A4, c4, hlv, _⟩ := own_slice HL.out
              have HLV := Lib.hid hlv
              have hl1 : (i : Int) < (n : Int) := by omega
              have hmx := HMX.out
              obtain ⟨mx, hmxe⟩ : ∃ b, b = mk x := ⟨_, rfl⟩
              rw [← hmxe] at hmx
              have HMXE := Lib.hid hmxe
              clear hx hbb hit hlv hmxe
              have hkb := HKB.out
              rw [← HMXE.out] at hkb
              have HKB2 := Lib.hid hkb
              clear hkb
              go_wp2_with fail
              clear hmx
              go_loopw [16, 17] (fun sv jv wr2 => ∃ j m : Nat, i + 1 ≤ j ∧ j ≤ n ∧ sv = .bool (!mx && !anyB ws mk x.at_ i j) ∧ jv = .int .i64 j ∧ wr2 = wr.drewN m) (fun _ jv _ => n - (intOf jv).toNat)
              case atStart => exact ⟨i + 1, 0, by omega, by omega, by rw [anyB_start]; cases mx <;> rfl, by go_num, rfl⟩
              case round =>
                obtain ⟨j, m, hij, hjn, rfl, rfl, rfl⟩ := hrel
                by_cases hlt3 : j < n
                · obtain ⟨y, hy⟩ : ∃ y, ws[j]? = some y := ⟨_, List.getElem?_eq_getElem (by rw [← HN.out]; exact hlt3)⟩
                  have HYA : Hid (wr.cell? ⟨bb, o + j * 36, none⟩ = some (.int .i64 y.at_)) := Lib.hid (HIT.out j y hy 0 _ (cellsW_at y))
                  have hmj : wr.cell? ⟨gm, j, none⟩ = some (.bool (mk y)) := HT.out.made.list (mbL_at hy hlt3)
                  obtain ⟨mj, hmje⟩ : ∃ b, mk y = b := ⟨_, rfl⟩
                  obtain ⟨ae, hae⟩ : ∃ b, decide (y.at_ = x.at_) = b := ⟨_, rfl⟩
                  rw [hmje] at hmj
                  have HMQ := Lib.hid hmj
                  have HAE : Hid (∀ W, (binOp .eql 3 (.int .i64 y.at_) (.int .i64 x.at_)).run Try.prog W = .ok (.bool ae) W) := Lib.hid (fun W => by rw [eqlI, hae])
                  have HAS : Hid (anyB ws mk x.at_ i (j + 1) = (anyB ws mk x.at_ i j || (mj && ae))) := Lib.hid (by rw [anyB_step hij hy, hmje, hae])
                  obtain ⟨an, han⟩ : ∃ b, anyB ws mk x.at_ i j = b := ⟨_, rfl⟩
                  rw [han] at HAS ⊢
                  have hl3 : (j : Int) < (n : Int) := by omega
                  clear hy hmj hmje hae han
                  cases mj <;> cases ae
                  · go_wp2_with fail
                    refine wp_region_quiet_lit (by kernel_rfl) (by kernel_rfl) ?_
                    try go_frame
                    repeat (first | go_big_quiet_skip | (go_big_quiet_want; first
                                            | (with_reducible show Oper.quiet _ (Oper.mk (some 120) _ _ _ _ _) _ _ _; refine quiet_value (.pointer (some ⟨gm, j, none⟩)) (fun W _ => by go_simp) ?_; go_frame; go_big_quiet_on)
                                            | (with_reducible show Oper.quiet _ (Oper.mk (some 121) _ _ _ _ _) _ _ _; refine quiet_load_one 4 (.tmp 120) rfl gm j rfl (.bool false) (fun W hW => hW.elim fun j hj => by subst hj; exact ld4 (cell_drewN (cell_drewN HMQ.out))) ?_; go_frame; go_big_quiet_on)
                                            | (with_reducible show Oper.quiet _ (Oper.mk (some 125) _ _ _ _ _) _ _ _; refine quiet_value (.pointer (some ⟨bb, o + j * 36, none⟩)) (fun W _ => by go_simp) ?_; go_frame; go_big_quiet_on)
                                            | (with_reducible show Oper.quiet _ (Oper.mk (some 126) _ _ _ _ _) _ _ _; refine quiet_value (.pointer (some ⟨bb, o + j * 36, none⟩)) (fun W _ => by go_simp) ?_; go_frame; go_big_quiet_on)
                                            | (with_reducible show Oper.quiet _ (Oper.mk (some 127) _ _ _ _ _) _ _ _; refine quiet_load_one 3 (.tmp 126) rfl bb (o + j * 36) rfl (.int .i64 y.at_) (fun W hW => hW.elim fun j hj => by subst hj; exact ld3 (cell_drewN (cell_drewN HYA.out))) ?_; go_frame; go_big_quiet_on)
                                            | (with_reducible show Oper.quiet _ (Oper.mk (some 130) _ _ _ _ _) _ _ _; refine quiet_value (.pointer (some ⟨bb, o + i * 36, none⟩)) (fun W _ => by go_simp) ?_; go_frame; go_big_quiet_on)
                                            | (with_reducible show Oper.quiet _ (Oper.mk (some 131) _ _ _ _ _) _ _ _; refine quiet_value (.pointer (some ⟨bb, o + i * 36, none⟩)) (fun W _ => by go_simp) ?_; go_frame; go_big_quiet_on)
                                            | (with_reducible show Oper.quiet _ (Oper.mk (some 132) _ _ _ _ _) _ _ _; refine quiet_load_one 3 (.tmp 131) rfl bb (o + i * 36) rfl (.int .i64 x.at_) (fun W hW => hW.elim fun j hj => by subst hj; exact ld3 (cell_drewN (cell_drewN HXA.out))) ?_; go_frame; go_big_quiet_on)
                                            | (with_reducible show Oper.quiet _ (Oper.mk (some 133) _ _ _ _ _) _ _ _; refine quiet_bin .eql 3 3 _ _ rfl (.int .i64 y.at_) (.int .i64 x.at_) (.bool false) rfl rfl (fun W _ => rfl) (fun W _ => HAE.out W) ?_; go_frame; go_big_quiet_on)
                                            | (with_reducible show Oper.quiet _ (Oper.mk (some 134) _ _ _ _ _) _ _ _; refine quiet_value (.bool false) (fun W _ => Ph.run_pick_f rfl rfl rfl) ?_; go_frame; go_big_quiet_on)
                                            | (go_big_quiet_op; go_big_quiet_on)))
                    refine wpQuiet_nil ?_
                    rintro _ ⟨nq, rfl⟩
                    go_wp2_with fail
                    exact ⟨⟨j + 1, m + nq, by omega, by omega, by rw [HAS.out]; first | rfl | simp, by go_num, rfl⟩, by simp [intOf]; omega⟩
                  · go_wp2_with fail
                    refine wp_region_quiet_lit (by kernel_rfl) (by kernel_rfl) ?_
                    try go_frame
                    repeat (first | go_big_quiet_skip | (go_big_quiet_want; first
                                            | (with_reducible show Oper.quiet _ (Oper.mk (some 120) _ _ _ _ _) _ _ _; refine quiet_value (.pointer (some ⟨gm, j, none⟩)) (fun W _ => by go_simp) ?_; go_frame; go_big_quiet_on)
                                            | (with_reducible show Oper.quiet _ (Oper.mk (some 121) _ _ _ _ _) _ _ _; refine quiet_load_one 4 (.tmp 120) rfl gm j rfl (.bool false) (fun W hW => hW.elim fun j hj => by subst hj; exact ld4 (cell_drewN (cell_drewN HMQ.out))) ?_; go_frame; go_big_quiet_on)
                                            | (with_reducible show Oper.quiet _ (Oper.mk (some 125) _ _ _ _ _) _ _ _; refine quiet_value (.pointer (some ⟨bb, o + j * 36, none⟩)) (fun W _ => by go_simp) ?_; go_frame; go_big_quiet_on)
                                            | (with_reducible show Oper.quiet _ (Oper.mk (some 126) _ _ _ _ _) _ _ _; refine quiet_value (.pointer (some ⟨bb, o + j * 36, none⟩)) (fun W _ => by go_simp) ?_; go_frame; go_big_quiet_on)
                                            | (with_reducible show Oper.quiet _ (Oper.mk (some 127) _ _ _ _ _) _ _ _; refine quiet_load_one 3 (.tmp 126) rfl bb (o + j * 36) rfl (.int .i64 y.at_) (fun W hW => hW.elim fun j hj => by subst hj; exact ld3 (cell_drewN (cell_drewN HYA.out))) ?_; go_frame; go_big_quiet_on)
                                            | (with_reducible show Oper.quiet _ (Oper.mk (some 130) _ _ _ _ _) _ _ _; refine quiet_value (.pointer (some ⟨bb, o + i * 36, none⟩)) (fun W _ => by go_simp) ?_; go_frame; go_big_quiet_on)
                                            | (with_reducible show Oper.quiet _ (Oper.mk (some 131) _ _ _ _ _) _ _ _; refine quiet_value (.pointer (some ⟨bb, o + i * 36, none⟩)) (fun W _ => by go_simp) ?_; go_frame; go_big_quiet_on)
                                            | (with_reducible show Oper.quiet _ (Oper.mk (some 132) _ _ _ _ _) _ _ _; refine quiet_load_one 3 (.tmp 131) rfl bb (o + i * 36) rfl (.int .i64 x.at_) (fun W hW => hW.elim fun j hj => by subst hj; exact ld3 (cell_drewN (cell_drewN HXA.out))) ?_; go_frame; go_big_quiet_on)
                                            | (with_reducible show Oper.quiet _ (Oper.mk (some 133) _ _ _ _ _) _ _ _; refine quiet_bin .eql 3 3 _ _ rfl (.int .i64 y.at_) (.int .i64 x.at_) (.bool true) rfl rfl (fun W _ => rfl) (fun W _ => HAE.out W) ?_; go_frame; go_big_quiet_on)
                                            | (with_reducible show Oper.quiet _ (Oper.mk (some 134) _ _ _ _ _) _ _ _; refine quiet_value (.bool false) (fun W _ => Ph.run_pick_f rfl rfl rfl) ?_; go_frame; go_big_quiet_on)
                                            | (go_big_quiet_op; go_big_quiet_on)))
                    refine wpQuiet_nil ?_
                    rintro _ ⟨nq, rfl⟩
                    go_wp2_with fail
                    exact ⟨⟨j + 1, m + nq, by omega, by omega, by rw [HAS.out]; first | rfl | simp, by go_num, rfl⟩, by simp [intOf]; omega⟩
                  · go_wp2_with fail
                    refine wp_region_quiet_lit (by kernel_rfl) (by kernel_rfl) ?_
                    try go_frame
                    repeat (first | go_big_quiet_skip | (go_big_quiet_want; first
                                            | (with_reducible show Oper.quiet _ (Oper.mk (some 120) _ _ _ _ _) _ _ _; refine quiet_value (.pointer (some ⟨gm, j, none⟩)) (fun W _ => by go_simp) ?_; go_frame; go_big_quiet_on)
                                            | (with_reducible show Oper.quiet _ (Oper.mk (some 121) _ _ _ _ _) _ _ _; refine quiet_load_one 4 (.tmp 120) rfl gm j rfl (.bool true) (fun W hW => hW.elim fun j hj => by subst hj; exact ld4 (cell_drewN (cell_drewN HMQ.out))) ?_; go_frame; go_big_quiet_on)
                                            | (with_reducible show Oper.quiet _ (Oper.mk (some 125) _ _ _ _ _) _ _ _; refine quiet_value (.pointer (some ⟨bb, o + j * 36, none⟩)) (fun W _ => by go_simp) ?_; go_frame; go_big_quiet_on)
                                            | (with_reducible show Oper.quiet _ (Oper.mk (some 126) _ _ _ _ _) _ _ _; refine quiet_value (.pointer (some ⟨bb, o + j * 36, none⟩)) (fun W _ => by go_simp) ?_; go_frame; go_big_quiet_on)
                                            | (with_reducible show Oper.quiet _ (Oper.mk (some 127) _ _ _ _ _) _ _ _; refine quiet_load_one 3 (.tmp 126) rfl bb (o + j * 36) rfl (.int .i64 y.at_) (fun W hW => hW.elim fun j hj => by subst hj; exact ld3 (cell_drewN (cell_drewN HYA.out))) ?_; go_frame; go_big_quiet_on)
                                            | (with_reducible show Oper.quiet _ (Oper.mk (some 130) _ _ _ _ _) _ _ _; refine quiet_value (.pointer (some ⟨bb, o + i * 36, none⟩)) (fun W _ => by go_simp) ?_; go_frame; go_big_quiet_on)
                                            | (with_reducible show Oper.quiet _ (Oper.mk (some 131) _ _ _ _ _) _ _ _; refine quiet_value (.pointer (some ⟨bb, o + i * 36, none⟩)) (fun W _ => by go_simp) ?_; go_frame; go_big_quiet_on)
                                            | (with_reducible show Oper.quiet _ (Oper.mk (some 132) _ _ _ _ _) _ _ _; refine quiet_load_one 3 (.tmp 131) rfl bb (o + i * 36) rfl (.int .i64 x.at_) (fun W hW => hW.elim fun j hj => by subst hj; exact ld3 (cell_drewN (cell_drewN HXA.out))) ?_; go_frame; go_big_quiet_on)
                                            | (with_reducible show Oper.quiet _ (Oper.mk (some 133) _ _ _ _ _) _ _ _; refine quiet_bin .eql 3 3 _ _ rfl (.int .i64 y.at_) (.int .i64 x.at_) (.bool false) rfl rfl (fun W _ => rfl) (fun W _ => HAE.out W) ?_; go_frame; go_big_quiet_on)
                                            | (with_reducible show Oper.quiet _ (Oper.mk (some 134) _ _ _ _ _) _ _ _; refine quiet_value (.bool false) (fun W _ => Ph.run_pick_t rfl rfl rfl) ?_; go_frame; go_big_quiet_on)
                                            | (go_big_quiet_op; go_big_quiet_on)))
                    refine wpQuiet_nil ?_
                    rintro _ ⟨nq, rfl⟩
                    go_wp2_with fail
                    exact ⟨⟨j + 1, m + nq, by omega, by omega, by rw [HAS.out]; first | rfl | simp, by go_num, rfl⟩, by simp [intOf]; omega⟩
                  · go_wp2_with fail
                    refine wp_region_quiet_lit (by kernel_rfl) (by kernel_rfl) ?_
                    try go_frame
                    repeat (first | go_big_quiet_skip | (go_big_quiet_want; first
                                            | (with_reducible show Oper.quiet _ (Oper.mk (some 120) _ _ _ _ _) _ _ _; refine quiet_value (.pointer (some ⟨gm, j, none⟩)) (fun W _ => by go_simp) ?_; go_frame; go_big_quiet_on)
                                            | (with_reducible show Oper.quiet _ (Oper.mk (some 121) _ _ _ _ _) _ _ _; refine quiet_load_one 4 (.tmp 120) rfl gm j rfl (.bool true) (fun W hW => hW.elim fun j hj => by subst hj; exact ld4 (cell_drewN (cell_drewN HMQ.out))) ?_; go_frame; go_big_quiet_on)
                                            | (with_reducible show Oper.quiet _ (Oper.mk (some 125) _ _ _ _ _) _ _ _; refine quiet_value (.pointer (some ⟨bb, o + j * 36, none⟩)) (fun W _ => by go_simp) ?_; go_frame; go_big_quiet_on)
                                            | (with_reducible show Oper.quiet _ (Oper.mk (some 126) _ _ _ _ _) _ _ _; refine quiet_value (.pointer (some ⟨bb, o + j * 36, none⟩)) (fun W _ => by go_simp) ?_; go_frame; go_big_quiet_on)
                                            | (with_reducible show Oper.quiet _ (Oper.mk (some 127) _ _ _ _ _) _ _ _; refine quiet_load_one 3 (.tmp 126) rfl bb (o + j * 36) rfl (.int .i64 y.at_) (fun W hW => hW.elim fun j hj => by subst hj; exact ld3 (cell_drewN (cell_drewN HYA.out))) ?_; go_frame; go_big_quiet_on)
                                            | (with_reducible show Oper.quiet _ (Oper.mk (some 130) _ _ _ _ _) _ _ _; refine quiet_value (.pointer (some ⟨bb, o + i * 36, none⟩)) (fun W _ => by go_simp) ?_; go_frame; go_big_quiet_on)
                                            | (with_reducible show Oper.quiet _ (Oper.mk (some 131) _ _ _ _ _) _ _ _; refine quiet_value (.pointer (some ⟨bb, o + i * 36, none⟩)) (fun W _ => by go_simp) ?_; go_frame; go_big_quiet_on)
                                            | (with_reducible show Oper.quiet _ (Oper.mk (some 132) _ _ _ _ _) _ _ _; refine quiet_load_one 3 (.tmp 131) rfl bb (o + i * 36) rfl (.int .i64 x.at_) (fun W hW => hW.elim fun j hj => by subst hj; exact ld3 (cell_drewN (cell_drewN HXA.out))) ?_; go_frame; go_big_quiet_on)
                                            | (with_reducible show Oper.quiet _ (Oper.mk (some 133) _ _ _ _ _) _ _ _; refine quiet_bin .eql 3 3 _ _ rfl (.int .i64 y.at_) (.int .i64 x.at_) (.bool true) rfl rfl (fun W _ => rfl) (fun W _ => HAE.out W) ?_; go_frame; go_big_quiet_on)
                                            | (with_reducible show Oper.quiet _ (Oper.mk (some 134) _ _ _ _ _) _ _ _; refine quiet_value (.bool true) (fun W _ => Ph.run_pick_t rfl rfl rfl) ?_; go_frame; go_big_quiet_on)
                                            | (go_big_quiet_op; go_big_quiet_on)))
                    refine wpQuiet_nil ?_
                    rintro _ ⟨nq, rfl⟩
                    go_wp2_with fail
                    exact ⟨⟨j + 1, m + nq, by omega, by omega, by rw [HAS.out]; first | rfl | simp, by go_num, rfl⟩, by simp [intOf]; omega⟩
                · have hjk : n = j := by omega
                  subst hjk
                  obtain ⟨kb, hkb⟩ : ∃ b, (!mx && !anyB ws mk x.at_ i n) = b := ⟨_, rfl⟩
                  have HKF : Hid (keepB mk (lastN ws mk n) i x = kb) := Lib.hid (by rw [HKB2.out, hkb])
                  rw [hkb]
                  clear hkb
                  have hdr : Below wr.heap.size wr (wr.drewN m) := ⟨rfl, rfl, rfl, Nat.le_refl _, fun _ _ => rfl⟩
                  have HT2 := Lib.hid (HT.out.grow hdr)
                  have HL2 := Lib.hid (own_below HL.out hdr)
                  clear hdr
                  cases kb with
                  | false =>
                    go_wp2_with fail
                    exact ⟨⟨i + 1, by omega, by go_num, HT2, Lib.hid (by rw [leftN_no HX.out HKF.out]; exact HL2.out)⟩, by simp [intOf]; omega⟩
                  | true =>
                    have hlv := HLV.out
                    subst hlv
                    obtain ⟨ln, hln⟩ : ∃ ln, ln = (leftN ws mk (lastN ws mk n) i).length := ⟨_, rfl⟩
                    have HLN := Lib.hid hln
                    have HLE : Hid (ln ≤ 1000) := Lib.hid (by rw [hln]; have := leftN_le ws mk (lastN ws mk n) i; have := HNL.out; omega)
                    obtain ⟨wa, hwa⟩ : ∃ wa, (wr.drewN m).alloc (.cells (cellsW x).toArray 108) = wa := ⟨_, rfl⟩
                    have hba : Below (wr.drewN m).heap.size (wr.drewN m) wa := by rw [← hwa]; exact (Below.refl _ _).alloc (Nat.le_refl _) _
                    have hka : Blk wa wr.heap.size 108 (cellsW x).toArray := by rw [← hwa]; exact Blk.new (wr.drewN m) 108 _
                    have hbw := bldW x (wr.drewN m)
                    rw [hwa] at hbw
                    have HBW := Lib.hid hbw
                    have HRX := Lib.hid (range_drewN (n := m) (HIT.out i x HX.out))
                    have HTA := Lib.hid (HT2.out.grow hba)
                    have hla := own_below HL2.out hba
                    rw [← hln] at hla
                    have HLA := Lib.hid hla
                    have HRA := Lib.hid (reads_blk (size := 36) (n := 1) hka (by rw [cellsW_len]))
                    have HSA : Hid (w.heap.size ≤ wa.heap.size) := Lib.hid HTA.out.below.size
                    obtain ⟨i108, z, hi', hz, hs, hby, hzs⟩ := row108'
                    have HI := Lib.hid hi'
                    have HZ := Lib.hid hz
                    have HS := Lib.hid hs
                    have HBY := Lib.hid hby
                    have HZS := Lib.hid hzs
                    rw [← hln]
                    clear hln hwa hba hka hbw hla hi' hz hs hby hzs
                    go_wp2_with (first
                      | (with_reducible show wpList _ _ _ (Oper.mk _ (Op.load 108 _) _ _ _ _ :: _) _ _; go_must (refine wpList_load_mid rfl 108 (.tmp 139) rfl bb (o + i * 36) rfl (cellsW x) _ HRX.out Try.underlying108 rfl (by rw [cellsW_len]; exact info108) ?_))
                      | (with_reducible show wpList _ _ _ (Oper.mk (some 141) _ _ _ _ _ :: _) _ _; go_must (refine wpList_wrun rfl _ (run_bld1 (X := .agg (cellsW x).toArray) rfl rfl HBW.out) ?_))
                      | (with_reducible show wpList _ _ _ (Oper.mk (some 142) _ _ _ _ _ :: _) _ _; go_must (refine wpList_append_any _ rfl (.tmp 136) (.tmp 141) 41 rfl w.heap.size 108 i108 (.agg z) 36 64 Try.underlying41 HI.out HZ.out HS.out HBY.out HZS.out (by decide) (.slice A4 ln c4) ln ((leftN ws mk (lastN ws mk n) i).flatMap cellsW) rfl HLA.out wa.heap.size (some ⟨wr.heap.size, 0, none⟩) 1 1 (cellsW x) rfl HRA.out (cellsW_one _) (by unfold maxLen; have := HLE.out; omega) (by have := HLE.out; omega) HSA.out ?_; intro v9 w9 hown9 hgrow9 _; have HO9 := Lib.hid hown9; have HG9 := Lib.hid hgrow9; clear hown9 hgrow9)))
                    refine ⟨⟨i + 1, by omega, by go_num, Lib.hid ?_, Lib.hid ?_⟩, by simp [intOf]; omega⟩
                    · have hT := HTA.out
                      have hne : ∀ k, (Value.slice A4 ln c4).ownBlock = some k → w.heap.size ≤ k := fun k hk => (HLA.out.lt k hk).1
                      have hO : OnlyF (fun k => (Value.slice A4 ln c4).ownBlock = some k) wa w9 := (OnlyF.refl _ _).grown HG9.out (fun k hk _ => hk)
                      exact ⟨hO.own hT.out (fun k hk hh => own_own_ne hT.out HLA.out (by decide) hk hh), hO.blk hT.made (fun hh => own_blk_ne (own_base HLA.out (Nat.zero_le _)) hT.made (by decide) hh), hT.low, hT.below.trans (hO.below hT.below.size hne)⟩
                    · rw [leftN_yes HX.out HKF.out, append_one, List.length_append, ← HLN.out]
                      exact HO9.out
            · have hin : n = i := by omega
              subst hin
              go_wp2_with fail
              go_ret2
              have e : madeB ts (topN ws ts n) = mk := by rw [HTOP.out, HMK.out]
              rw [e]
              exact ⟨_, _, rfl, HT.out.out, HL.out, HT.out.below⟩
end Go.Proofs.Ytikhhipgamllgaa
namespace Go.Proofs.Ytikhhipgamllgaa
open Go.RowKit
section
variable {P : Program} {w : World}
theorem wp_append_lit {o : Oper} {a : Act} {K : Act → World → Prop} {Q : Exit → Act → World → Prop} (s x : Operand) (t : TypeId)
    (ho : o.op = .call { callee := .builtin .append, args := #[s, x], argTypes := #[t, t] })
    (base : Nat) (e : TypeId) (i : TypeInfo) (z : Value) (size bytes : Nat) (ht : P.underlying t = some (.slice e)) (hi : P.info? e = some i) (hz : i.zero = some z)
    (hsize : i.size = size) (hby : i.bytes = bytes) (hzs : z.cells.size = size) (hsz : 0 < size)
    (b : Nat) (hs : a.eval s = .slice (some ⟨b, 0, none⟩) 0 0) (hown : w.ownsRow base e size (.slice (some ⟨b, 0, none⟩) 0 0) 0 [])
    (B : Nat) (A : Option Addr) (m c : Nat) (news : List Value) (hx : a.eval x = .slice A m c) (hr : Reads w B size A m news) (h1 : ∀ u ∈ news, u.oneCell' = true)
    (h63 : m ≤ maxLen) (hbytes : m * bytes ≤ 140737488355328) (hbase : base ≤ w.heap.size)
    (h : ∀ v' w', w'.ownsRow base e size v' m news → Below w.heap.size w w' → K (a.put o.dst v') w') : o.wp P a w K Q := by
  obtain ⟨v', w', hrun, h2, _, _⟩ := run_append_any (P := P) w base t o.type e i z size bytes ht hi hz hsize hby hzs hsz (.slice (some ⟨b, 0, none⟩) 0 0) 0 [] hown B A m c news hr h1 (by omega) (by rw [Nat.zero_add]; exact hbytes) hbase
  have hb : Below w.heap.size w w' := by
    rcases Nat.eq_zero_or_pos m with h0 | h0
    · subst h0
      have e0 : (Builtin.append_ #[t, t] o.type #[Value.slice (some ⟨b, 0, none⟩) 0 0, .slice A 0 c]).run P w = .ok (.slice (some ⟨b, 0, none⟩) 0 0) w := by
        cases A <;> simp [Builtin.append_, run_underlying ht, sizeOf, typeInfo, hi, Builtin.lenOf, Builtin.firstCells, loadCells, loadCellsFrom, storeCells]
      rw [e0] at hrun
      injection hrun with _ e1
      rw [← e1]
      exact Below.refl _ _
    · obtain ⟨ad, rfl, _, hc⟩ := hr.2 h0
      have hg := run_append_grow (P := P) w t o.type e i z ht hi hz ⟨b, 0, none⟩ 0 0 [] (by simp) (fun j u hu => by simp at hu) ad m c news (by rw [hsize]; exact hr.1) hc (by omega) (by have h6 := h63; unfold maxLen at h6; omega) (growslice_fits (by omega) (by rw [hby]; simpa using hbytes))
      rw [hg] at hrun
      injection hrun with _ e1
      rw [← e1]
      exact ⟨rfl, rfl, rfl, by simp, fun k hk => by simp [heap_alloc_old w.drew _ hk]; rfl⟩
  unfold Oper.wp execOp
  simp only [ho, resolve, invoke, builtin, Sem.run_bind, Sem.run_pure, Result.andThen_ok, List.map_toArray, List.map_cons, List.map_nil, hs, hx, hrun]
  refine h v' w' ?_ hb
  simpa using h2
end
end Go.Proofs.Ytikhhipgamllgaa
namespace Go.Proofs.Ytikhhipgamllgaa
open Go.RowKit Ph
set_option linter.unusedVariables false
theorem keep_own (base : Nat) (e : TypeId) (size n : Nat) (xs : List Value) : Keeps (fun W W' => Below W.heap.size W W') fun v w => w.ownsRow base e size v n xs := fun _ _ _ hb h => own_below h hb
theorem keep_lit (B : Nat) (e : TypeId) (size : Nat) : Keeps (fun W W' => Below W.heap.size W W') fun v w => ∃ b, v = .slice (some ⟨b, 0, none⟩) 0 0 ∧ w.ownsRow B e size v 0 [] := fun _ _ _ hb ⟨b, h1, h2⟩ => ⟨b, h1, own_below h2 hb⟩
theorem bld41_0 (w : World) : (Instr.buildSlice 41 0 #[]).run Try.prog w = .ok (.slice (some ⟨w.heap.size, 0, none⟩) 0 0) (w.alloc (.cells #[] 108)) := by kernel_rfl
def Rk.wr (R : Rk) (at_ : Int) (s : Sec) (t : Tg) : Wr := { at_ := at_, s := s, tk := t.k, ti := t.i, ep := R.ep }
def Rk.put (R : Rk) (x : Wr) : Rk := { R with wait := R.wait ++ [x], log := R.log ++ [⟨1, x, [], none, 0⟩] }
def Rk.write (R : Rk) (at_ : Int) (s : Sec) (t : Tg) : Rk × Int := if atIn at_ R.safe.length = false then (R.next, 1) else if R.fails then (R.next, 3) else (R.next.put (R.wr at_ s t), 0)
def rwA0 (g B B6 B7 : Nat) (R1 : Rk) (at_ : Int) (s : Sec) (t : Tg) : Lvs :=
  [eqv (.int .i64 at_),
   eqv (.agg (cellsS s).toArray),
   eqv (.agg (cellsT t).toArray),
   eqv (.pointer (some ⟨g, 0, none⟩)),
   eqv (.pointer (some ⟨g, 0, none⟩)),
   eqv (.pointer (some ⟨g, 2, none⟩)),
   eqv (.int .i64 R1.ep),
   eqv (.agg (cellsW (R1.wr at_ s t)).toArray),
   fun v w => ∃ b, v = .pointer (some ⟨b, 0, none⟩) ∧ B ≤ b ∧ Blk w b 108 (cellsW zeroWr).toArray,
   fun _ _ => False]
def rwA1 (g B B6 B7 : Nat) (R1 : Rk) (at_ : Int) (s : Sec) (t : Tg) : Lvs :=
  [eqv (.int .i64 at_),
   eqv (.agg (cellsS s).toArray),
   eqv (.agg (cellsT t).toArray),
   eqv (.pointer (some ⟨g, 0, none⟩)),
   eqv (.pointer (some ⟨g, 0, none⟩)),
   eqv (.pointer (some ⟨g, 2, none⟩)),
   eqv (.int .i64 R1.ep),
   eqv (.agg (cellsW (R1.wr at_ s t)).toArray),
   fun _ _ => True,
   fun _ _ => True]
theorem rwA_keep (g B B6 B7 : Nat) (R1 : Rk) (at_ : Int) (s : Sec) (t : Tg) : ∀ L ∈ [rwA0 g B B6 B7 R1 at_ s t, rwA1 g B B6 B7 R1 at_ s t], ∀ q ∈ L, Keeps (fun W W' => Below W.heap.size W W') q := by
  simp only [rwA0, rwA1, List.forall_mem_cons]
  refine ⟨?_, ?_, by simp⟩
  all_goals
    repeat (first | refine ⟨keep_eqv _ _, ?_⟩ | refine ⟨keep_pure _ _, ?_⟩ | refine ⟨keep_one _ _ _, ?_⟩ | refine ⟨keep_lit _ _ _, ?_⟩ | refine ⟨keep_own _ _ _ _ _, ?_⟩ | refine ⟨keep_at _ _ _, ?_⟩)
    simp
theorem rwA_turns (g B B6 B7 : Nat) (R1 : Rk) (at_ : Int) (s : Sec) (t : Tg) : TurnsAll [rwA0 g B B6 B7 R1 at_ s t, rwA1 g B B6 B7 R1 at_ s t] := by
  simp only [rwA0, rwA1, TurnsAll, Turns]
  refine ⟨?_, trivial⟩
  all_goals
    repeat (first | refine ⟨turn_eqv _, ?_⟩ | refine ⟨turn_true _, ?_⟩ | refine ⟨turn_false _, ?_⟩ | refine ⟨turn_pure _, ?_⟩)
    trivial
def rwB0 (g n c B : Nat) (A : Option Addr) (R1 : Rk) (at_ : Int) (s : Sec) (t : Tg) (xs : List Value) : Lvs :=
  [eqv (.pointer (some ⟨g, 0, none⟩)),
   fun v w => ∃ b, v = .slice (some ⟨b, 0, none⟩) 0 0 ∧ w.ownsRow B 108 36 v 0 [],
   eqv (.pointer (some ⟨g, 0, none⟩)),
   eqv (.pointer (some ⟨g, 0, none⟩)),
   eqv (.pointer (some ⟨g, 1, none⟩)),
   eqv (.slice A n c),
   fun v w => w.ownsRow B 108 36 v n xs,
   eqv (.agg (cellsW (R1.wr at_ s t)).toArray),
   fun v w => ∃ b, v = .slice (some ⟨b, 0, none⟩) 1 1 ∧ Blk w b 108 (cellsW (R1.wr at_ s t)).toArray,
   fun _ _ => False,
   fun _ _ => False,
   fun _ _ => False,
   fun _ _ => False]
def rwB1 (g n c B : Nat) (A : Option Addr) (R1 : Rk) (at_ : Int) (s : Sec) (t : Tg) (xs : List Value) : Lvs :=
  [eqv (.pointer (some ⟨g, 0, none⟩)),
   fun _ _ => True,
   eqv (.pointer (some ⟨g, 0, none⟩)),
   eqv (.pointer (some ⟨g, 0, none⟩)),
   eqv (.pointer (some ⟨g, 1, none⟩)),
   eqv (.slice A n c),
   fun _ _ => True,
   eqv (.agg (cellsW (R1.wr at_ s t)).toArray),
   fun _ _ => True,
   fun v w => w.ownsRow B 108 36 v (n + 1) (xs ++ (cellsW (R1.wr at_ s t))),
   eqv (.pointer (some ⟨g, 0, none⟩)),
   eqv (.pointer (some ⟨g, 1, none⟩)),
   fun _ _ => False]
def rwB2 (g n c B : Nat) (A : Option Addr) (R1 : Rk) (at_ : Int) (s : Sec) (t : Tg) (xs : List Value) : Lvs :=
  [eqv (.pointer (some ⟨g, 0, none⟩)),
   fun _ _ => True,
   eqv (.pointer (some ⟨g, 0, none⟩)),
   eqv (.pointer (some ⟨g, 0, none⟩)),
   eqv (.pointer (some ⟨g, 1, none⟩)),
   eqv (.slice A n c),
   fun _ _ => True,
   eqv (.agg (cellsW (R1.wr at_ s t)).toArray),
   fun _ _ => True,
   fun _ _ => True,
   eqv (.pointer (some ⟨g, 0, none⟩)),
   eqv (.pointer (some ⟨g, 1, none⟩)),
   fun _ _ => True]
theorem rwB_keep (g n c B : Nat) (A : Option Addr) (R1 : Rk) (at_ : Int) (s : Sec) (t : Tg) (xs : List Value) : ∀ L ∈ [rwB0 g n c B A R1 at_ s t xs, rwB1 g n c B A R1 at_ s t xs, rwB2 g n c B A R1 at_ s t xs], ∀ q ∈ L, Keeps (fun W W' => Below W.heap.size W W') q := by
  simp only [rwB0, rwB1, rwB2, List.forall_mem_cons]
  refine ⟨?_, ?_, ?_, by simp⟩
  all_goals
    repeat (first | refine ⟨keep_eqv _ _, ?_⟩ | refine ⟨keep_pure _ _, ?_⟩ | refine ⟨keep_one _ _ _, ?_⟩ | refine ⟨keep_lit _ _ _, ?_⟩ | refine ⟨keep_own _ _ _ _ _, ?_⟩ | refine ⟨keep_at _ _ _, ?_⟩)
    simp
theorem rwB_turns (g n c B : Nat) (A : Option Addr) (R1 : Rk) (at_ : Int) (s : Sec) (t : Tg) (xs : List Value) : TurnsAll [rwB0 g n c B A R1 at_ s t xs, rwB1 g n c B A R1 at_ s t xs, rwB2 g n c B A R1 at_ s t xs] := by
  simp only [rwB0, rwB1, rwB2, TurnsAll, Turns]
  refine ⟨?_, ?_, trivial⟩
  all_goals
    repeat (first | refine ⟨turn_eqv _, ?_⟩ | refine ⟨turn_true _, ?_⟩ | refine ⟨turn_false _, ?_⟩ | refine ⟨turn_pure _, ?_⟩)
    trivial
def rwC0 (g n c B : Nat) (A : Option Addr) (R1 : Rk) (at_ : Int) (s : Sec) (t : Tg) (xs : List Value) : Lvs :=
  [eqv (.pointer (some ⟨g, 0, none⟩)),
   fun v w => ∃ b, v = .slice (some ⟨b, 0, none⟩) 0 0 ∧ w.ownsRow B 142 38 v 0 [],
   eqv (.pointer (some ⟨g, 0, none⟩)),
   eqv (.pointer (some ⟨g, 0, none⟩)),
   eqv (.pointer (some ⟨g, 3, none⟩)),
   eqv (.slice A n c),
   fun v w => w.ownsRow B 142 38 v n xs,
   eqv (.agg (cellsW (R1.wr at_ s t)).toArray),
   eqv (.agg (cellsE ⟨1, (R1.wr at_ s t), [], none, 0⟩).toArray),
   fun v w => ∃ b, v = .slice (some ⟨b, 0, none⟩) 1 1 ∧ Blk w b 142 (cellsE ⟨1, (R1.wr at_ s t), [], none, 0⟩).toArray,
   fun _ _ => False,
   fun _ _ => False,
   fun _ _ => False,
   fun _ _ => False]
def rwC1 (g n c B : Nat) (A : Option Addr) (R1 : Rk) (at_ : Int) (s : Sec) (t : Tg) (xs : List Value) : Lvs :=
  [eqv (.pointer (some ⟨g, 0, none⟩)),
   fun _ _ => True,
   eqv (.pointer (some ⟨g, 0, none⟩)),
   eqv (.pointer (some ⟨g, 0, none⟩)),
   eqv (.pointer (some ⟨g, 3, none⟩)),
   eqv (.slice A n c),
   fun _ _ => True,
   eqv (.agg (cellsW (R1.wr at_ s t)).toArray),
   eqv (.agg (cellsE ⟨1, (R1.wr at_ s t), [], none, 0⟩).toArray),
   fun _ _ => True,
   fun v w => w.ownsRow B 142 38 v (n + 1) (xs ++ (cellsE ⟨1, (R1.wr at_ s t), [], none, 0⟩)),
   eqv (.pointer (some ⟨g, 0, none⟩)),
   eqv (.pointer (some ⟨g, 3, none⟩)),
   fun _ _ => False]
def rwC2 (g n c B : Nat) (A : Option Addr) (R1 : Rk) (at_ : Int) (s : Sec) (t : Tg) (xs : List Value) : Lvs :=
  [eqv (.pointer (some ⟨g, 0, none⟩)),
   fun _ _ => True,
   eqv (.pointer (some ⟨g, 0, none⟩)),
   eqv (.pointer (some ⟨g, 0, none⟩)),
   eqv (.pointer (some ⟨g, 3, none⟩)),
   eqv (.slice A n c),
   fun _ _ => True,
   eqv (.agg (cellsW (R1.wr at_ s t)).toArray),
   eqv (.agg (cellsE ⟨1, (R1.wr at_ s t), [], none, 0⟩).toArray),
   fun _ _ => True,
   fun _ _ => True,
   eqv (.pointer (some ⟨g, 0, none⟩)),
   eqv (.pointer (some ⟨g, 3, none⟩)),
   fun _ _ => True]
theorem rwC_keep (g n c B : Nat) (A : Option Addr) (R1 : Rk) (at_ : Int) (s : Sec) (t : Tg) (xs : List Value) : ∀ L ∈ [rwC0 g n c B A R1 at_ s t xs, rwC1 g n c B A R1 at_ s t xs, rwC2 g n c B A R1 at_ s t xs], ∀ q ∈ L, Keeps (fun W W' => Below W.heap.size W W') q := by
  simp only [rwC0, rwC1, rwC2, List.forall_mem_cons]
  refine ⟨?_, ?_, ?_, by simp⟩
  all_goals
    repeat (first | refine ⟨keep_eqv _ _, ?_⟩ | refine ⟨keep_pure _ _, ?_⟩ | refine ⟨keep_one _ _ _, ?_⟩ | refine ⟨keep_lit _ _ _, ?_⟩ | refine ⟨keep_own _ _ _ _ _, ?_⟩ | refine ⟨keep_at _ _ _, ?_⟩)
    simp
theorem rwC_turns (g n c B : Nat) (A : Option Addr) (R1 : Rk) (at_ : Int) (s : Sec) (t : Tg) (xs : List Value) : TurnsAll [rwC0 g n c B A R1 at_ s t xs, rwC1 g n c B A R1 at_ s t xs, rwC2 g n c B A R1 at_ s t xs] := by
  simp only [rwC0, rwC1, rwC2, TurnsAll, Turns]
  refine ⟨?_, ?_, trivial⟩
  all_goals
    repeat (first | refine ⟨turn_eqv _, ?_⟩ | refine ⟨turn_true _, ?_⟩ | refine ⟨turn_false _, ?_⟩ | refine ⟨turn_pure _, ?_⟩)
    trivial
theorem RTurned.next {F F' : Nat → Prop} {g : Nat} {R' : Rk} {w w' w'' : World} (h : OnlyF F w w') (hw : Wider F F' w w') (h' : RTurned w' F' g R' w'') : RTurned w F g R' w'' := by
  obtain ⟨F'', hd, hw', ho'⟩ := h'
  exact ⟨F'', hd, hw.trans hw' h.size ho'.size, h.next hw ho'⟩
theorem RTurned.from_below {F : Nat → Prop} {g : Nat} {R' : Rk} {w w' w'' : World} (hb : Below w.heap.size w w') (h : RTurned w' F g R' w'') : RTurned w F g R' w'' := RTurned.next (OnlyF.of_below hb) (Wider.refl F w w') h
set_option maxRecDepth 100000 in
set_option maxHeartbeats 8000000 in
theorem rwrite_any {w : World} {F : Nat → Prop} {g : Nat} {R : Rk} {sv wv lv fv : Value} (h : RefV w F g R sv wv lv fv) (hn : R.asked ≤ 1000000) (hb : R.bad.length ≤ 100000) (hw : R.wait.length ≤ 100000) (hl : R.log.length ≤ 100000) (at_ : Int) (s : Sec) (t : Tg) :
    Calls Try.prog 94 #[.pointer (some ⟨g, 0, none⟩), .int .i64 at_, .agg (cellsS s).toArray, .agg (cellsT t).toArray] w fun o w' => o = .returned (.int .i64 (R.write at_ s t).2) ∧ RTurned w F g (R.write at_ s t).1 w' := by
  obtain ⟨w1, hw1⟩ : ∃ w1, (w.alloc (.cells (cellsS s).toArray 66)).alloc (.cells (cellsT t).toArray 69) = w1 := ⟨_, rfl⟩
  have hb1 : Below w.heap.size w w1 := by rw [← hw1]; exact ((Below.refl _ w).alloc (Nat.le_refl _) _).alloc (by simp) _
  have hx6 : Blk w1 w.heap.size 66 (cellsS s).toArray := by rw [← hw1]; exact (Blk.new w 66 _).alloc _
  have hx7 : Blk w1 (w.heap.size + 1) 69 (cellsT t).toArray := by rw [← hw1]; have := Blk.new (w.alloc (.cells (cellsS s).toArray 66)) 69 (cellsT t).toArray; simpa using this
  have h1 := h.below hb1
  have HLT := Lib.hid h.lt
  have HOWN := Lib.hid h.own
  have HB1 := Lib.hid hb1
  have HX6 := Lib.hid hx6
  have HX7 := Lib.hid hx7
  obtain ⟨f, hf⟩ : ∃ f, R.fails = f := ⟨_, rfl⟩
  obtain ⟨b, hbb⟩ : ∃ b, atIn at_ R.safe.length = b := ⟨_, rfl⟩
  have CF := rfails_any h1 hn hb
  rw [hf] at CF
  have CFH := Lib.hid CF
  have HWL := Lib.hid hw
  have HLL := Lib.hid hl
  have HRES : Hid (R.write at_ s t = if b = false then (R.next, 1) else if f then (R.next, 3) else (R.next.put (R.wr at_ s t), 0)) := Lib.hid (by unfold Rk.write; rw [hbb, hf])
  obtain ⟨As, cs, rfl, _⟩ := own_slice h.safe.1
  obtain ⟨q, hq⟩ : ∃ q, q = R.safe.length := ⟨_, rfl⟩
  have HQ := Lib.hid hq
  rw [← hq] at hbb
  rw [← hq] at CFH
  obtain ⟨b1, e1⟩ : ∃ b, decide (at_ < 0) = b := ⟨_, rfl⟩
  obtain ⟨b2, e2⟩ : ∃ b, decide (at_ ≥ (q : Int)) = b := ⟨_, rfl⟩
  have e2' : decide ((q : Int) ≤ at_) = b2 := e2
  have hbd : b = !(b1 || b2) := by
    rw [← hbb, ← e1, ← e2]
    unfold atIn
    by_cases h1 : at_ < 0 <;> by_cases h2 : at_ ≥ (q : Int) <;> simp [h1, h2] <;> omega
  have HBB := Lib.hid hbb
  have HF := Lib.hid hf
  clear h h1 hb1 hx6 hx7 hn hb hw hl CF hf hq hbb
  cases b with
  | false =>
    have hor : b1 = true ∨ b2 = true := by cases b1 <;> cases b2 <;> first | (left; rfl) | (right; rfl) | (cases hbd; done)
    clear hbd
    cases b1 <;> cases b2 <;> first | (rcases hor with hb | hb <;> cases hb; done) | skip
    all_goals
      clear hor
      go_enter Try.func94, Try.ntmps94
      go_wp2_with fail
      clear hw1
      refine CFH.out.mono ?_
      rintro o w2 ⟨rfl, h2, ho2⟩
      have hc0 : w2.cell? ⟨g, 0, none⟩ = some (.slice As q cs) := h2.cell 0
      have H2 := Lib.hid h2
      have HO2 := Lib.hid ho2
      clear h2 ho2
      go_wp2_with fail
      go_ret
      rw [HRES.out]
      exact ⟨rfl, RTurned.from_below HB1.out ⟨F, ⟨_, _, _, _, by have := H2.out; rw [HQ.out] at this; exact this⟩, Wider.refl _ _ _, HO2.out.mono (fun k hk => by subst hk; exact HOWN.out)⟩⟩
  | true =>
    have hor : b1 = false ∧ b2 = false := by cases b1 <;> cases b2 <;> first | exact ⟨rfl, rfl⟩ | (cases hbd; done)
    obtain ⟨rfl, rfl⟩ := hor
    clear hbd
    cases f with
    | true =>
      go_enter Try.func94, Try.ntmps94
      go_wp2_with fail
      clear hw1
      refine CFH.out.mono ?_
      rintro o w2 ⟨rfl, h2, ho2⟩
      have hc0 : w2.cell? ⟨g, 0, none⟩ = some (.slice As q cs) := h2.cell 0
      have H2 := Lib.hid h2
      have HO2 := Lib.hid ho2
      clear h2 ho2
      go_wp2_with fail
      go_ret
      rw [HRES.out]
      exact ⟨rfl, RTurned.from_below HB1.out ⟨F, ⟨_, _, _, _, by have := H2.out; rw [HQ.out] at this; exact this⟩, Wider.refl _ _ _, HO2.out.mono (fun k hk => by subst hk; exact HOWN.out)⟩⟩
    | false =>
      go_enter Try.func94, Try.ntmps94
      go_wp2_with fail
      clear hw1
      refine CFH.out.mono ?_
      rintro o w2 ⟨rfl, h2, ho2⟩
      have hc0 : w2.cell? ⟨g, 0, none⟩ = some (.slice As q cs) := h2.cell 0
      have HXS := Lib.hid (ho2.blk HX6.out (fun e => by have := HLT.out g HOWN.out; omega))
      have HXT := Lib.hid (ho2.blk HX7.out (fun e => by have := HLT.out g HOWN.out; omega))
      have hdw : R.wr at_ s t = R.next.wr at_ s t := rfl
      rw [hdw] at HRES
      have HWL1 : Hid (R.next.wait.length ≤ 100000) := HWL
      have HLL1 : Hid (R.next.log.length ≤ 100000) := HLL
      have HQ1 : Hid (q = R.next.safe.length) := HQ
      obtain ⟨R1, hR1⟩ : ∃ R1, R1 = R.next := ⟨_, rfl⟩
      rw [← hR1] at h2 HRES HWL1 HLL1 HQ1
      clear hR1 hdw HWL HLL HQ CFH
      have HRV := Lib.hid h2
      have HO2 := Lib.hid ho2
      clear h2 ho2
      go_wp2_with fail
      refine Ph.wp_region_all (ph [rwA0 g w2.heap.size w.heap.size (w.heap.size + 1) R1 at_ s t, rwA1 g w2.heap.size w.heap.size (w.heap.size + 1) R1 at_ s t]) (fun k a W => match k with | 0 => Below w2.heap.size w2 W | 1 => Below w2.heap.size w2 W ∧ ∃ b, a.tmps[10]? = some (.pointer (some ⟨b, 0, none⟩)) ∧ w2.heap.size ≤ b ∧ Blk W b 108 (cellsW (R1.wr at_ s t)).toArray | _ => False) (fun W W' => Below W.heap.size W W') (fun _ _ _ => True) [9] [some 25, some 26, some 27, some 28, some 29, some 30, some 31, some 32, some 10, none] mixedP (by kernel_rfl) (by kernel_rfl) (by kernel_rfl) (by kernel_rfl) (ph_keep (rwA_keep g w2.heap.size w.heap.size (w.heap.size + 1) R1 at_ s t)) (fun k j v W W' _ hs => ph_turn (rwA_turns g w2.heap.size w.heap.size (w.heap.size + 1) R1 at_ s t) k j v W W' hs) (Below.refl _ _).drew ?steps ?fin
      case steps =>
        refine all_lt 10 ?_
        simp only [AllLt]
        refine ⟨?_, ?_, ?_, ?_, ?_, ?_, ?_, ?_, ?_, ?_, trivial⟩
        · refine step_upto (by kernel_rfl) 0 [] (by kernel_rfl) fun k hk a W hJ hf => ?_
          rcases k with _ | k
          · have h1 : a.tmps[1]? = some (.int .i64 at_) := hf.old 1 (by kernel_rfl)
            apply op_value
            case ho => rfl
            case hw => exact (wanted_none rfl)
            case hrun => exact run_move (.inl rfl) (eval_tmp h1)
            case hS => exact rfl
            case hk => exact keep_refl _
            case hJ => exact hJ
          · omega
        · refine step_upto (by kernel_rfl) 0 [] (by kernel_rfl) fun k hk a W hJ hf => ?_
          rcases k with _ | k
          · have h6 : a.tmps[6]? = some (.pointer (some ⟨w.heap.size, 0, none⟩)) := hf.old 6 (by kernel_rfl)
            apply op_value
            case ho => rfl
            case hw => exact (wanted_none rfl)
            case hrun => exact run_load rfl (eval_tmp h6) (ldS (HXS.out.below hJ HXS.out.lt))
            case hS => exact rfl
            case hk => exact keep_refl _
            case hJ => exact hJ
          · omega
        · refine step_upto (by kernel_rfl) 0 [] (by kernel_rfl) fun k hk a W hJ hf => ?_
          rcases k with _ | k
          · have h7 : a.tmps[7]? = some (.pointer (some ⟨w.heap.size + 1, 0, none⟩)) := hf.old 7 (by kernel_rfl)
            apply op_value
            case ho => rfl
            case hw => exact (wanted_none rfl)
            case hrun => exact run_load rfl (eval_tmp h7) (ldT (HXT.out.below hJ HXT.out.lt))
            case hS => exact rfl
            case hk => exact keep_refl _
            case hJ => exact hJ
          · omega
        · refine step_upto (by kernel_rfl) 0 [] (by kernel_rfl) fun k hk a W hJ hf => ?_
          rcases k with _ | k
          · have h0 : a.tmps[0]? = some (.pointer (some ⟨g, 0, none⟩)) := hf.old 0 (by kernel_rfl)
            apply op_value
            case ho => rfl
            case hw => exact (wanted_none rfl)
            case hrun => exact run_move (.inl rfl) (eval_tmp h0)
            case hS => exact rfl
            case hk => exact keep_refl _
            case hJ => exact hJ
          · omega
        · refine step_upto (by kernel_rfl) 0 [] (by kernel_rfl) fun k hk a W hJ hf => ?_
          rcases k with _ | k
          · obtain ⟨v28, h28, rfl⟩ := hf.get 3 28 (by kernel_rfl) (by kernel_rfl)
            apply op_value
            case ho => rfl
            case hw => exact (wanted_none rfl)
            case hrun => exact run_nilCheck rfl (eval_tmp h28)
            case hS => exact rfl
            case hk => exact keep_refl _
            case hJ => exact hJ
          · omega
        · refine step_upto (by kernel_rfl) 0 [] (by kernel_rfl) fun k hk a W hJ hf => ?_
          rcases k with _ | k
          · obtain ⟨v29, h29, rfl⟩ := hf.get 4 29 (by kernel_rfl) (by kernel_rfl)
            apply op_value
            case ho => rfl
            case hw => exact (wanted_none rfl)
            case hrun => exact run_fieldAddr rfl (eval_tmp h29) (V := (.pointer (some ⟨g, 2, none⟩))) (by go_simp)
            case hS => exact rfl
            case hk => exact keep_refl _
            case hJ => exact hJ
          · omega
        · refine step_upto (by kernel_rfl) 0 [] (by kernel_rfl) fun k hk a W hJ hf => ?_
          rcases k with _ | k
          · obtain ⟨v30, h30, rfl⟩ := hf.get 5 30 (by kernel_rfl) (by kernel_rfl)
            apply op_value
            case ho => rfl
            case hw => exact (wanted_none rfl)
            case hrun => exact run_load rfl (eval_tmp h30) (ld3 ((HRV.out.below hJ).cell 2))
            case hS => exact rfl
            case hk => exact keep_refl _
            case hJ => exact hJ
          · omega
        · refine step_upto (by kernel_rfl) 0 [] (by kernel_rfl) fun k hk a W hJ hf => ?_
          rcases k with _ | k
          · obtain ⟨v25, h25, rfl⟩ := hf.get 0 25 (by kernel_rfl) (by kernel_rfl)
            obtain ⟨v26, h26, rfl⟩ := hf.get 1 26 (by kernel_rfl) (by kernel_rfl)
            obtain ⟨v27, h27, rfl⟩ := hf.get 2 27 (by kernel_rfl) (by kernel_rfl)
            obtain ⟨v31, h31, rfl⟩ := hf.get 6 31 (by kernel_rfl) (by kernel_rfl)
            exact op_value rfl (wanted_none rfl) (Ph.run_build rfl (vs := #[(0, .int .i64 at_), (1, .agg (cellsS s).toArray), (2, .agg (cellsT t).toArray), (3, .int .i64 R1.ep)]) (by simp [eval_tmp h25, eval_tmp h26, eval_tmp h27, eval_tmp h31]) (mkW (R1.wr at_ s t) W)) rfl (keep_refl _) hJ
          · omega
        · refine step_upto (by kernel_rfl) 0 [] (by kernel_rfl) fun k hk a W hJ hf => ?_
          rcases k with _ | k
          · exact op_value rfl (wanted_none rfl) (Ph.run_alloc rfl (zW W)) ⟨W.heap.size, rfl, hJ.size, Blk.new W 108 _⟩ ((Below.refl _ W).alloc (Nat.le_refl _) _) (hJ.alloc hJ.size _)
          · omega
        · refine step_eff 0 (by kernel_rfl) (by kernel_rfl) (by kernel_rfl) fun a W hJ hf => ?_
          obtain ⟨v10, h10, b10, rfl, l10, k10⟩ := hf.get 8 10 (by kernel_rfl) (by kernel_rfl)
          obtain ⟨v32, h32, rfl⟩ := hf.get 7 32 (by kernel_rfl) (by kernel_rfl)
          obtain ⟨W', hrun, hb, hg, hs⟩ := stBlk (ty := 108) k10 (new := cellsW (R1.wr at_ s t)) (by simp [cellsW_len]) (by rw [cellsW_len]; exact info108) (cellsW_one _)
          exact op_store rfl (wanted_none rfl) (Ph.run_store rfl (eval_tmp h10) (eval_tmp h32) hrun) trivial trivial ⟨hJ.grown hg hJ.size (fun k e => by cases e; exact l10), b10, h10, l10, hb⟩
      case fin =>
        intro vs w3 hl hJ hS
        obtain ⟨hJ1, b10, hg10, l10, k10⟩ := hJ
        have hl0 : vs.length = 10 := hl
        obtain ⟨x0, r0, rfl, hl1⟩ := cons_of hl0
        obtain ⟨x1, r1, rfl, hl2⟩ := cons_of hl1
        obtain ⟨x2, r2, rfl, hl3⟩ := cons_of hl2
        obtain ⟨x3, r3, rfl, hl4⟩ := cons_of hl3
        obtain ⟨x4, r4, rfl, hl5⟩ := cons_of hl4
        obtain ⟨x5, r5, rfl, hl6⟩ := cons_of hl5
        obtain ⟨x6, r6, rfl, hl7⟩ := cons_of hl6
        obtain ⟨x7, r7, rfl, hl8⟩ := cons_of hl7
        obtain ⟨x8, r8, rfl, hl9⟩ := cons_of hl8
        obtain ⟨x9, r9, rfl, hl10⟩ := cons_of hl9
        obtain rfl := nil_of hl10
        simp only [putAll, Act.put, List.setIfInBounds_toArray, List.set_cons_zero, List.set_cons_succ, List.getElem?_toArray, List.getElem?_cons_succ, List.getElem?_cons_zero, Option.some.injEq] at hg10
        subst hg10
        simp only [putAll, Act.put, List.setIfInBounds_toArray, List.set_cons_zero, List.set_cons_succ]
        have h3 := HRV.out.below hJ1
        obtain ⟨A, c, rfl, _⟩ := own_slice h3.wait.1
        obtain ⟨n, hn⟩ : ∃ n, n = R1.wait.length := ⟨_, rfl⟩
        obtain ⟨xs, hxs⟩ : ∃ xs, xs = R1.wait.flatMap cellsW := ⟨_, rfl⟩
        have hrd := Reads.of_own h3.wait.1
        rw [← hn] at h3
        rw [← hn, ← hxs] at hrd
        have hwl := HWL1.out
        rw [← hn] at hwl
        have HNF : Hid (¬ F b10) := Lib.hid (fun hf => by have := HRV.out.lt _ hf; omega)
        have HT2 : Hid (OnlyF F w w3) := Lib.hid (((OnlyF.of_below (F := F) HB1.out).trans HO2.out (fun k _ hk => by subst hk; exact HOWN.out)).andThen hJ1)
        have HRD := Lib.hid hrd
        have HX := Lib.hid k10
        have HN := Lib.hid hwl
        have HN0 := Lib.hid hn
        have HXS0 := Lib.hid hxs
        have HXO : Hid (∀ u ∈ xs, u.oneCell' = true) := Lib.hid (by rw [hxs]; exact writes_one _)
        clear hS hl hl0 hJ1 l10 k10 hwl hn hxs hrd HXS HXT HX6 HX7 HRV hl1 hl2 hl3 hl4 hl5 hl6 hl7 hl8 hl9 hl10
        have HRV := Lib.hid h3
        clear h3
        obtain ⟨i, z, hi, hz, hs, hby, hzs⟩ := row108'
        have HI := Lib.hid hi
        have HZ := Lib.hid hz
        have HS := Lib.hid hs
        have HBY := Lib.hid hby
        have HZS := Lib.hid hzs
        clear hi hz hs hby hzs
        go_wp2_with fail
        refine Ph.wp_region_all (ph [rwB0 g n c w3.heap.size A R1 at_ s t xs, rwB1 g n c w3.heap.size A R1 at_ s t xs, rwB2 g n c w3.heap.size A R1 at_ s t xs]) (fun k _ W => match k with | 0 => Below w3.heap.size w3 W | 1 => Below w3.heap.size w3 W | 2 => ∃ W1 A2 c2, W = W1.setCell ⟨g, 1, none⟩ (.slice A2 (n + 1) c2) ∧ Below w3.heap.size w3 W1 ∧ W1.ownsRow w3.heap.size 108 36 (.slice A2 (n + 1) c2) (n + 1) (xs ++ (cellsW (R1.wr at_ s t))) | _ => False) (fun W W' => Below W.heap.size W W') (fun _ _ _ => True) [9, 12] [some 33, some 34, some 35, some 36, some 37, some 38, some 39, some 40, some 41, some 42, some 43, some 44, none] mixedP (by kernel_rfl) (by kernel_rfl) (by kernel_rfl) (by kernel_rfl) (ph_keep (rwB_keep g n c w3.heap.size A R1 at_ s t xs)) (fun k j v W W' _ hs => ph_turn (rwB_turns g n c w3.heap.size A R1 at_ s t xs) k j v W W' hs) (Below.refl _ _).drew ?steps ?fin
        case steps =>
          refine all_lt 13 ?_
          simp only [AllLt]
          refine ⟨?_, ?_, ?_, ?_, ?_, ?_, ?_, ?_, ?_, ?_, ?_, ?_, ?_, trivial⟩
          · refine step_upto (by kernel_rfl) 1 [] (by kernel_rfl) fun k hk a W hJ hf => ?_
            rcases k with _ | k
            · have h0 : a.tmps[0]? = some (.pointer (some ⟨g, 0, none⟩)) := hf.old 0 (by kernel_rfl)
              apply op_value
              case ho => rfl
              case hw => exact (wanted_none rfl)
              case hrun => exact run_move (.inl rfl) (eval_tmp h0)
              case hS => exact rfl
              case hk => exact keep_refl _
              case hJ => exact hJ
            rcases k with _ | k
            · have h0 : a.tmps[0]? = some (.pointer (some ⟨g, 0, none⟩)) := hf.old 0 (by kernel_rfl)
              apply op_value
              case ho => rfl
              case hw => exact (wanted_none rfl)
              case hrun => exact run_move (.inl rfl) (eval_tmp h0)
              case hS => exact rfl
              case hk => exact keep_refl _
              case hJ => exact hJ
            · omega
          · refine step_upto (by kernel_rfl) 0 [6] (by kernel_rfl) fun k hk a W hJ hf => ?_
            rcases k with _ | k
            · exact op_value rfl (wanted_none rfl) (Ph.run_buildSlice rfl (vs := #[]) (by simp) (bld41_0 W)) ⟨_, rfl, World.ownsRow_lit W #[] 0 hJ.size (by decide) (by simp)⟩ ((Below.refl _ W).alloc (Nat.le_refl _) _) (hJ.alloc hJ.size _)
            · omega
          · refine step_upto (by kernel_rfl) 0 [6, 5, 4, 3] (by kernel_rfl) fun k hk a W hJ hf => ?_
            rcases k with _ | k
            · have h0 : a.tmps[0]? = some (.pointer (some ⟨g, 0, none⟩)) := hf.old 0 (by kernel_rfl)
              apply op_value
              case ho => rfl
              case hw => exact (wanted_none rfl)
              case hrun => exact run_move (.inl rfl) (eval_tmp h0)
              case hS => exact rfl
              case hk => exact keep_refl _
              case hJ => exact hJ
            · omega
          · refine step_upto (by kernel_rfl) 0 [6, 5, 4] (by kernel_rfl) fun k hk a W hJ hf => ?_
            rcases k with _ | k
            · obtain ⟨v35, h35, rfl⟩ := hf.get 2 35 (by kernel_rfl) (by kernel_rfl)
              apply op_value
              case ho => rfl
              case hw => exact (wanted_none rfl)
              case hrun => exact run_nilCheck rfl (eval_tmp h35)
              case hS => exact rfl
              case hk => exact keep_refl _
              case hJ => exact hJ
            · omega
          · refine step_upto (by kernel_rfl) 0 [6, 5] (by kernel_rfl) fun k hk a W hJ hf => ?_
            rcases k with _ | k
            · obtain ⟨v36, h36, rfl⟩ := hf.get 3 36 (by kernel_rfl) (by kernel_rfl)
              apply op_value
              case ho => rfl
              case hw => exact (wanted_none rfl)
              case hrun => exact run_fieldAddr rfl (eval_tmp h36) (V := (.pointer (some ⟨g, 1, none⟩))) (by go_simp)
              case hS => exact rfl
              case hk => exact keep_refl _
              case hJ => exact hJ
            · omega
          · refine step_upto (by kernel_rfl) 0 [6] (by kernel_rfl) fun k hk a W hJ hf => ?_
            rcases k with _ | k
            · obtain ⟨v37, h37, rfl⟩ := hf.get 4 37 (by kernel_rfl) (by kernel_rfl)
              apply op_value
              case ho => rfl
              case hw => exact (wanted_none rfl)
              case hrun => exact run_load rfl (eval_tmp h37) (ld41 ((HRV.out.below hJ).cell 1))
              case hS => exact rfl
              case hk => exact keep_refl _
              case hJ => exact hJ
            · omega
          · refine step_upto (by kernel_rfl) 0 [] (by kernel_rfl) fun k hk a W hJ hf => ?_
            rcases k with _ | k
            · obtain ⟨v34, h34, b5, rfl, o5⟩ := hf.get 1 34 (by kernel_rfl) (by kernel_rfl)
              obtain ⟨v38, h38, rfl⟩ := hf.get 5 38 (by kernel_rfl) (by kernel_rfl)
              refine op_wp rfl (wanted_none rfl) ?_
              refine wp_append_lit (.tmp 34) (.tmp 38) 41 rfl w3.heap.size 108 i (.agg z) 36 64 Try.underlying41 HI.out HZ.out HS.out HBY.out HZS.out (by decide) b5 (eval_tmp h34) o5 w3.heap.size A n c xs (eval_tmp h38) (HRD.out.below hJ) HXO.out (by unfold maxLen; have := HN.out; omega) (by have := HN.out; omega) hJ.size ?_
              intro v' W' hown' hb'
              exact ⟨_, rfl, hown', hb', hJ.trans (hb'.mono hJ.size)⟩
            · omega
          · refine step_upto (by kernel_rfl) 0 [8] (by kernel_rfl) fun k hk a W hJ hf => ?_
            rcases k with _ | k
            · have h10 : a.tmps[10]? = some (.pointer (some ⟨b10, 0, none⟩)) := hf.old 10 (by kernel_rfl)
              apply op_value
              case ho => rfl
              case hw => exact (wanted_none rfl)
              case hrun => exact run_load rfl (eval_tmp h10) (ldW (HX.out.below hJ HX.out.lt))
              case hS => exact rfl
              case hk => exact keep_refl _
              case hJ => exact hJ
            · omega
          · refine step_upto (by kernel_rfl) 0 [] (by kernel_rfl) fun k hk a W hJ hf => ?_
            rcases k with _ | k
            · obtain ⟨v40, h40, rfl⟩ := hf.get 7 40 (by kernel_rfl) (by kernel_rfl)
              exact op_value rfl (wanted_none rfl) (Ph.run_buildSlice rfl (vs := #[(0, (.agg (cellsW (R1.wr at_ s t)).toArray))]) (by simp [eval_tmp h40]) (bldW (R1.wr at_ s t) W)) ⟨_, rfl, Blk.new W 108 _⟩ ((Below.refl _ W).alloc (Nat.le_refl _) _) (hJ.alloc hJ.size _)
            · omega
          · refine step_eff 0 (by kernel_rfl) (by kernel_rfl) (by kernel_rfl) fun a W hJ hf => ?_
            obtain ⟨v39, h39, o6⟩ := hf.get 6 39 (by kernel_rfl) (by kernel_rfl)
            obtain ⟨v41, h41, b8, rfl, k8⟩ := hf.get 8 41 (by kernel_rfl) (by kernel_rfl)
            refine op_wp rfl (wanted_none rfl) ?_
            refine wp_append_any W (.tmp 39) (.tmp 41) 41 rfl w3.heap.size 108 i (.agg z) 36 64 Try.underlying41 HI.out HZ.out HS.out HBY.out HZS.out (by decide) v39 n xs (eval_tmp h39) o6 W.heap.size (some ⟨b8, 0, none⟩) 1 1 (cellsW (R1.wr at_ s t)) (eval_tmp h41) (reads_blk k8 (by rw [cellsW_len])) (cellsW_one _) (by unfold maxLen; have := HN.out; omega) (by have := HN.out; omega) hJ.size ?_
            intro v' W' hown' hg' hloc
            exact ⟨_, rfl, hown', trivial, hJ.grown hg' hJ.size (fun q hq => (o6.lt q hq).1)⟩
          · refine step_upto (by kernel_rfl) 1 [11] (by kernel_rfl) fun k hk a W hJ hf => ?_
            rcases k with _ | k
            · obtain ⟨_, _, hno⟩ := hf.dep 9 (by kernel_rfl)
              exact hno.elim
            rcases k with _ | k
            · obtain ⟨v33, h33, rfl⟩ := hf.get 0 33 (by kernel_rfl) (by kernel_rfl)
              apply op_value
              case ho => rfl
              case hw => exact (wanted_none rfl)
              case hrun => exact run_nilCheck rfl (eval_tmp h33)
              case hS => exact rfl
              case hk => exact keep_refl _
              case hJ => exact hJ
            · omega
          · refine step_upto (by kernel_rfl) 1 [] (by kernel_rfl) fun k hk a W hJ hf => ?_
            rcases k with _ | k
            · obtain ⟨_, _, hno⟩ := hf.dep 10 (by kernel_rfl)
              exact hno.elim
            rcases k with _ | k
            · obtain ⟨v43, h43, rfl⟩ := hf.get 10 43 (by kernel_rfl) (by kernel_rfl)
              apply op_value
              case ho => rfl
              case hw => exact (wanted_none rfl)
              case hrun => exact run_fieldAddr rfl (eval_tmp h43) (V := (.pointer (some ⟨g, 1, none⟩))) (by go_simp)
              case hS => exact rfl
              case hk => exact keep_refl _
              case hJ => exact hJ
            · omega
          · refine step_eff 1 (by kernel_rfl) (by kernel_rfl) (by kernel_rfl) fun a W hJ hf => ?_
            obtain ⟨v44, h44, rfl⟩ := hf.get 11 44 (by kernel_rfl) (by kernel_rfl)
            obtain ⟨v42, h42, o9⟩ := hf.get 9 42 (by kernel_rfl) (by kernel_rfl)
            obtain ⟨A2, c2, rfl, _⟩ := own_slice o9
            have hv := HRV.out.below hJ
            exact op_store rfl (wanted_none rfl) (Ph.run_store rfl (eval_tmp h44) (eval_tmp h42) (st41 (hv.cell 1) (hv.blk.frozen 1))) trivial trivial ⟨W, A2, c2, rfl, hJ, o9⟩
        case fin =>
          intro vs w4 hl hJ hS
          have hl0 : vs.length = 13 := hl
          obtain ⟨y0, r0, rfl, hl1⟩ := cons_of hl0
          obtain ⟨y1, r1, rfl, hl2⟩ := cons_of hl1
          obtain ⟨y2, r2, rfl, hl3⟩ := cons_of hl2
          obtain ⟨y3, r3, rfl, hl4⟩ := cons_of hl3
          obtain ⟨y4, r4, rfl, hl5⟩ := cons_of hl4
          obtain ⟨y5, r5, rfl, hl6⟩ := cons_of hl5
          obtain ⟨y6, r6, rfl, hl7⟩ := cons_of hl6
          obtain ⟨y7, r7, rfl, hl8⟩ := cons_of hl7
          obtain ⟨y8, r8, rfl, hl9⟩ := cons_of hl8
          obtain ⟨y9, r9, rfl, hl10⟩ := cons_of hl9
          obtain ⟨y10, r10, rfl, hl11⟩ := cons_of hl10
          obtain ⟨y11, r11, rfl, hl12⟩ := cons_of hl11
          obtain ⟨y12, r12, rfl, hl13⟩ := cons_of hl12
          obtain rfl := nil_of hl13
          simp only [putAll, Act.put, List.setIfInBounds_toArray, List.set_cons_zero, List.set_cons_succ]
          obtain ⟨W1, A2, c2, hw4, hb4, ho4⟩ := hJ
          have ho5 : W1.ownsRow w3.heap.size 108 36 (.slice A2 (n + 1) c2) (R1.wait ++ [(R1.wr at_ s t)]).length ((R1.wait ++ [(R1.wr at_ s t)]).flatMap cellsW) := by
            rw [append_one, List.length_append, ← HN0.out, ← HXS0.out]; exact ho4
          obtain ⟨F4, h4, hW4, hO4⟩ := HRV.out.setWait hb4 ho5
          rw [← hw4] at h4 hW4 hO4
          have hx4 := hO4.blk HX.out HNF.out
          have HT4 := Lib.hid hW4
          have HO4 := Lib.hid hO4
          clear hS hl hl0 ho4 ho5 hb4 hw4 hW4 hO4 HI HZ HS HBY HZS HRD HXO HX HN HN0 HXS0 HRV hl1 hl2 hl3 hl4 hl5 hl6 hl7 hl8 hl9 hl10 hl11 hl12 hl13
          have HX := Lib.hid hx4
          obtain ⟨A, c, rfl, _⟩ := own_slice h4.log.1
          obtain ⟨n, hn⟩ : ∃ n, n = R1.log.length := ⟨_, rfl⟩
          obtain ⟨xs, hxs⟩ : ∃ xs, xs = R1.log.flatMap cellsE := ⟨_, rfl⟩
          have hrd := Reads.of_own h4.log.1
          have hwl := HLL1.out
          simp only [← hn] at h4 hwl
          simp only [← hn, ← hxs] at hrd
          have HRD := Lib.hid hrd
          have HN := Lib.hid hwl
          have HN0 := Lib.hid hn
          have HXS0 := Lib.hid hxs
          have HXO : Hid (∀ u ∈ xs, u.oneCell' = true) := Lib.hid (by rw [hxs]; exact evs_one _)
          have HRV := Lib.hid h4
          clear hx4 hrd hwl hn hxs h4
          obtain ⟨i, z, hi, hz, hs, hby, hzs⟩ := row142'
          have HI := Lib.hid hi
          have HZ := Lib.hid hz
          have HS := Lib.hid hs
          have HBY := Lib.hid hby
          have HZS := Lib.hid hzs
          clear hi hz hs hby hzs
          go_wp2_with fail
          refine Ph.wp_region_all (ph [rwC0 g n c w4.heap.size A R1 at_ s t xs, rwC1 g n c w4.heap.size A R1 at_ s t xs, rwC2 g n c w4.heap.size A R1 at_ s t xs]) (fun k _ W => match k with | 0 => Below w4.heap.size w4 W | 1 => Below w4.heap.size w4 W | 2 => ∃ W1 A2 c2, W = W1.setCell ⟨g, 3, none⟩ (.slice A2 (n + 1) c2) ∧ Below w4.heap.size w4 W1 ∧ W1.ownsRow w4.heap.size 142 38 (.slice A2 (n + 1) c2) (n + 1) (xs ++ (cellsE ⟨1, (R1.wr at_ s t), [], none, 0⟩)) | _ => False) (fun W W' => Below W.heap.size W W') (fun _ _ _ => True) [10, 13] [some 45, some 46, some 47, some 48, some 49, some 50, some 51, some 52, some 53, some 54, some 55, some 56, some 57, none] mixedP (by kernel_rfl) (by kernel_rfl) (by kernel_rfl) (by kernel_rfl) (ph_keep (rwC_keep g n c w4.heap.size A R1 at_ s t xs)) (fun k j v W W' _ hs => ph_turn (rwC_turns g n c w4.heap.size A R1 at_ s t xs) k j v W W' hs) (Below.refl _ _).drew ?steps ?fin
          case steps =>
            refine all_lt 14 ?_
            simp only [AllLt]
            refine ⟨?_, ?_, ?_, ?_, ?_, ?_, ?_, ?_, ?_, ?_, ?_, ?_, ?_, ?_, trivial⟩
            · refine step_upto (by kernel_rfl) 1 [] (by kernel_rfl) fun k hk a W hJ hf => ?_
              rcases k with _ | k
              · have h0 : a.tmps[0]? = some (.pointer (some ⟨g, 0, none⟩)) := hf.old 0 (by kernel_rfl)
                apply op_value
                case ho => rfl
                case hw => exact (wanted_none rfl)
                case hrun => exact run_move (.inl rfl) (eval_tmp h0)
                case hS => exact rfl
                case hk => exact keep_refl _
                case hJ => exact hJ
              rcases k with _ | k
              · have h0 : a.tmps[0]? = some (.pointer (some ⟨g, 0, none⟩)) := hf.old 0 (by kernel_rfl)
                apply op_value
                case ho => rfl
                case hw => exact (wanted_none rfl)
                case hrun => exact run_move (.inl rfl) (eval_tmp h0)
                case hS => exact rfl
                case hk => exact keep_refl _
                case hJ => exact hJ
              · omega
            · refine step_upto (by kernel_rfl) 0 [6] (by kernel_rfl) fun k hk a W hJ hf => ?_
              rcases k with _ | k
              · exact op_value rfl (wanted_none rfl) (Ph.run_buildSlice rfl (vs := #[]) (by simp) (bld89_0 W)) ⟨_, rfl, World.ownsRow_lit W #[] 0 hJ.size (by decide) (by simp)⟩ ((Below.refl _ W).alloc (Nat.le_refl _) _) (hJ.alloc hJ.size _)
              · omega
            · refine step_upto (by kernel_rfl) 0 [6, 5, 4, 3] (by kernel_rfl) fun k hk a W hJ hf => ?_
              rcases k with _ | k
              · have h0 : a.tmps[0]? = some (.pointer (some ⟨g, 0, none⟩)) := hf.old 0 (by kernel_rfl)
                apply op_value
                case ho => rfl
                case hw => exact (wanted_none rfl)
                case hrun => exact run_move (.inl rfl) (eval_tmp h0)
                case hS => exact rfl
                case hk => exact keep_refl _
                case hJ => exact hJ
              · omega
            · refine step_upto (by kernel_rfl) 0 [6, 5, 4] (by kernel_rfl) fun k hk a W hJ hf => ?_
              rcases k with _ | k
              · obtain ⟨v47, h47, rfl⟩ := hf.get 2 47 (by kernel_rfl) (by kernel_rfl)
                apply op_value
                case ho => rfl
                case hw => exact (wanted_none rfl)
                case hrun => exact run_nilCheck rfl (eval_tmp h47)
                case hS => exact rfl
                case hk => exact keep_refl _
                case hJ => exact hJ
              · omega
            · refine step_upto (by kernel_rfl) 0 [6, 5] (by kernel_rfl) fun k hk a W hJ hf => ?_
              rcases k with _ | k
              · obtain ⟨v48, h48, rfl⟩ := hf.get 3 48 (by kernel_rfl) (by kernel_rfl)
                apply op_value
                case ho => rfl
                case hw => exact (wanted_none rfl)
                case hrun => exact run_fieldAddr rfl (eval_tmp h48) (V := (.pointer (some ⟨g, 3, none⟩))) (by go_simp)
                case hS => exact rfl
                case hk => exact keep_refl _
                case hJ => exact hJ
              · omega
            · refine step_upto (by kernel_rfl) 0 [6] (by kernel_rfl) fun k hk a W hJ hf => ?_
              rcases k with _ | k
              · obtain ⟨v49, h49, rfl⟩ := hf.get 4 49 (by kernel_rfl) (by kernel_rfl)
                apply op_value
                case ho => rfl
                case hw => exact (wanted_none rfl)
                case hrun => exact run_load rfl (eval_tmp h49) (ld89 ((HRV.out.below hJ).cell 3))
                case hS => exact rfl
                case hk => exact keep_refl _
                case hJ => exact hJ
              · omega
            · refine step_upto (by kernel_rfl) 0 [] (by kernel_rfl) fun k hk a W hJ hf => ?_
              rcases k with _ | k
              · obtain ⟨v46, h46, b5, rfl, o5⟩ := hf.get 1 46 (by kernel_rfl) (by kernel_rfl)
                obtain ⟨v50, h50, rfl⟩ := hf.get 5 50 (by kernel_rfl) (by kernel_rfl)
                refine op_wp rfl (wanted_none rfl) ?_
                refine wp_append_lit (.tmp 46) (.tmp 50) 89 rfl w4.heap.size 142 i (.agg z) 38 96 Try.underlying89 HI.out HZ.out HS.out HBY.out HZS.out (by decide) b5 (eval_tmp h46) o5 w4.heap.size A n c xs (eval_tmp h50) (HRD.out.below hJ) HXO.out (by unfold maxLen; have := HN.out; omega) (by have := HN.out; omega) hJ.size ?_
                intro v' W' hown' hb'
                exact ⟨_, rfl, hown', hb', hJ.trans (hb'.mono hJ.size)⟩
              · omega
            · refine step_upto (by kernel_rfl) 0 [9, 8] (by kernel_rfl) fun k hk a W hJ hf => ?_
              rcases k with _ | k
              · have h10 : a.tmps[10]? = some (.pointer (some ⟨b10, 0, none⟩)) := hf.old 10 (by kernel_rfl)
                apply op_value
                case ho => rfl
                case hw => exact (wanted_none rfl)
                case hrun => exact run_load rfl (eval_tmp h10) (ldW (HX.out.below hJ HX.out.lt))
                case hS => exact rfl
                case hk => exact keep_refl _
                case hJ => exact hJ
              · omega
            · refine step_upto (by kernel_rfl) 0 [9] (by kernel_rfl) fun k hk a W hJ hf => ?_
              rcases k with _ | k
              · obtain ⟨v52, h52, rfl⟩ := hf.get 7 52 (by kernel_rfl) (by kernel_rfl)
                exact op_value rfl (wanted_none rfl) (Ph.run_build rfl (vs := #[(0, .int .i64 1), (1, (.agg (cellsW (R1.wr at_ s t)).toArray))]) (by simp [eval_tmp h52]; rfl) (mkEw (R1.wr at_ s t) W)) rfl (keep_refl _) hJ
              · omega
            · refine step_upto (by kernel_rfl) 0 [] (by kernel_rfl) fun k hk a W hJ hf => ?_
              rcases k with _ | k
              · obtain ⟨v53, h53, rfl⟩ := hf.get 8 53 (by kernel_rfl) (by kernel_rfl)
                exact op_value rfl (wanted_none rfl) (Ph.run_buildSlice rfl (vs := #[(0, (.agg (cellsE ⟨1, (R1.wr at_ s t), [], none, 0⟩).toArray))]) (by simp [eval_tmp h53]) (bldE ⟨1, (R1.wr at_ s t), [], none, 0⟩ W)) ⟨_, rfl, Blk.new W 142 _⟩ ((Below.refl _ W).alloc (Nat.le_refl _) _) (hJ.alloc hJ.size _)
              · omega
            · refine step_eff 0 (by kernel_rfl) (by kernel_rfl) (by kernel_rfl) fun a W hJ hf => ?_
              obtain ⟨v51, h51, o6⟩ := hf.get 6 51 (by kernel_rfl) (by kernel_rfl)
              obtain ⟨v54, h54, b8, rfl, k8⟩ := hf.get 9 54 (by kernel_rfl) (by kernel_rfl)
              refine op_wp rfl (wanted_none rfl) ?_
              refine wp_append_any W (.tmp 51) (.tmp 54) 89 rfl w4.heap.size 142 i (.agg z) 38 96 Try.underlying89 HI.out HZ.out HS.out HBY.out HZS.out (by decide) v51 n xs (eval_tmp h51) o6 W.heap.size (some ⟨b8, 0, none⟩) 1 1 (cellsE ⟨1, (R1.wr at_ s t), [], none, 0⟩) (eval_tmp h54) (reads_blk k8 (by rw [cellsE_len])) (cellsE_one _) (by unfold maxLen; have := HN.out; omega) (by have := HN.out; omega) hJ.size ?_
              intro v' W' hown' hg' hloc
              exact ⟨_, rfl, hown', trivial, hJ.grown hg' hJ.size (fun q hq => (o6.lt q hq).1)⟩
            · refine step_upto (by kernel_rfl) 1 [12] (by kernel_rfl) fun k hk a W hJ hf => ?_
              rcases k with _ | k
              · obtain ⟨_, _, hno⟩ := hf.dep 10 (by kernel_rfl)
                exact hno.elim
              rcases k with _ | k
              · obtain ⟨v45, h45, rfl⟩ := hf.get 0 45 (by kernel_rfl) (by kernel_rfl)
                apply op_value
                case ho => rfl
                case hw => exact (wanted_none rfl)
                case hrun => exact run_nilCheck rfl (eval_tmp h45)
                case hS => exact rfl
                case hk => exact keep_refl _
                case hJ => exact hJ
              · omega
            · refine step_upto (by kernel_rfl) 1 [] (by kernel_rfl) fun k hk a W hJ hf => ?_
              rcases k with _ | k
              · obtain ⟨_, _, hno⟩ := hf.dep 11 (by kernel_rfl)
                exact hno.elim
              rcases k with _ | k
              · obtain ⟨v56, h56, rfl⟩ := hf.get 11 56 (by kernel_rfl) (by kernel_rfl)
                apply op_value
                case ho => rfl
                case hw => exact (wanted_none rfl)
                case hrun => exact run_fieldAddr rfl (eval_tmp h56) (V := (.pointer (some ⟨g, 3, none⟩))) (by go_simp)
                case hS => exact rfl
                case hk => exact keep_refl _
                case hJ => exact hJ
              · omega
            · refine step_eff 1 (by kernel_rfl) (by kernel_rfl) (by kernel_rfl) fun a W hJ hf => ?_
              obtain ⟨v57, h57, rfl⟩ := hf.get 12 57 (by kernel_rfl) (by kernel_rfl)
              obtain ⟨v55, h55, o9⟩ := hf.get 10 55 (by kernel_rfl) (by kernel_rfl)
              obtain ⟨A2, c2, rfl, _⟩ := own_slice o9
              have hv := HRV.out.below hJ
              exact op_store rfl (wanted_none rfl) (Ph.run_store rfl (eval_tmp h57) (eval_tmp h55) (st89 (hv.cell 3) (hv.blk.frozen 3))) trivial trivial ⟨W, A2, c2, rfl, hJ, o9⟩
          case fin =>
            intro vs w5 hl hJ hS
            have hl0 : vs.length = 14 := hl
            obtain ⟨z0, r0, rfl, hl1⟩ := cons_of hl0
            obtain ⟨z1, r1, rfl, hl2⟩ := cons_of hl1
            obtain ⟨z2, r2, rfl, hl3⟩ := cons_of hl2
            obtain ⟨z3, r3, rfl, hl4⟩ := cons_of hl3
            obtain ⟨z4, r4, rfl, hl5⟩ := cons_of hl4
            obtain ⟨z5, r5, rfl, hl6⟩ := cons_of hl5
            obtain ⟨z6, r6, rfl, hl7⟩ := cons_of hl6
            obtain ⟨z7, r7, rfl, hl8⟩ := cons_of hl7
            obtain ⟨z8, r8, rfl, hl9⟩ := cons_of hl8
            obtain ⟨z9, r9, rfl, hl10⟩ := cons_of hl9
            obtain ⟨z10, r10, rfl, hl11⟩ := cons_of hl10
            obtain ⟨z11, r11, rfl, hl12⟩ := cons_of hl11
            obtain ⟨z12, r12, rfl, hl13⟩ := cons_of hl12
            obtain ⟨z13, r13, rfl, hl14⟩ := cons_of hl13
            obtain rfl := nil_of hl14
            simp only [putAll, Act.put, List.setIfInBounds_toArray, List.set_cons_zero, List.set_cons_succ]
            obtain ⟨W2, A3, c3, hw5, hb5, ho5⟩ := hJ
            have HJ := Lib.hid (And.intro hw5 (And.intro hb5 ho5))
            clear hS hl hl0 hw5 hb5 ho5 hl1 hl2 hl3 hl4 hl5 hl6 hl7 hl8 hl9 hl10 hl11 hl12 hl13 hl14
            go_wp2_with fail
            go_ret
            obtain ⟨hw5, hb5, ho5⟩ := HJ.out
            have ho6 : W2.ownsRow w4.heap.size 142 38 (.slice A3 (n + 1) c3) (R1.log ++ [(⟨1, (R1.wr at_ s t), [], none, 0⟩ : Ev)]).length ((R1.log ++ [(⟨1, (R1.wr at_ s t), [], none, 0⟩ : Ev)]).flatMap cellsE) := by
              rw [append_one, List.length_append, ← HN0.out, ← HXS0.out]; exact ho5
            obtain ⟨F5, h5, hW5, hO5⟩ := HRV.out.setLog hb5 ho6 (fun e he => (List.mem_append.1 he).elim .inl (fun h => .inr (by
              have : e = ⟨1, (R1.wr at_ s t), [], none, 0⟩ := by simpa using h
              subst this
              exact World.ownsRow_nil _ _ _ _)))
            rw [← hw5] at h5 hW5 hO5
            rw [HRES.out]
            exact ⟨rfl, RTurned.next HT2.out (Wider.refl _ _ _) (RTurned.next HO4.out HT4.out ⟨F5, ⟨_, _, _, _, h5⟩, hW5, hO5⟩)⟩
end Go.Proofs.Ytikhhipgamllgaa
namespace Go.Proofs.Ytikhhipgamllgaa
open Go.RowKit Ph
set_option linter.unusedVariables false
/-- what turns a phase, the world's change known -/
def TurnR (T : World → World → Prop) : Lvs → Lvs → Prop
  | p :: r, q :: s => (∀ v w w', T w w' → p v w → q v w') ∧ TurnR T r s
  | [], [] => True
  | _, _ => False
theorem turnr_all (T : World → World → Prop) : ∀ (L0 L1 : Lvs), TurnR T L0 L1 → ∀ j v w w', T w w' → L0.getD j (fun _ _ => True) v w → L1.getD j (fun _ _ => True) v w'
  | [], [], _, _, _, _, _, _, _ => by simp
  | p :: r, q :: s, h, 0, v, w, w', ht, hp => by
    simp only [List.getD_cons_zero] at hp ⊢
    exact h.1 v w w' ht hp
  | p :: r, q :: s, h, j + 1, v, w, w', ht, hp => by
    simp only [List.getD_cons_succ] at hp ⊢
    exact turnr_all T r s h.2 j v w w' ht hp
  | [], _ :: _, h, _, _, _, _, _, _ => h.elim
  | _ :: _, [], h, _, _, _, _, _, _ => h.elim
def TurnsR (T : World → World → Prop) : List Lvs → Prop
  | L :: M :: r => TurnR T L M ∧ TurnsR T (M :: r)
  | _ => True
theorem ph_turnr {T : World → World → Prop} : ∀ {Ls : List Lvs}, TurnsR T Ls → ∀ (k j : Nat) (v : Value) (w w' : World), T w w' → ph Ls k j v w → ph Ls (k + 1) j v w'
  | [], _, k, j, v, w, w', _, _ => by simp [ph]
  | [_], _, k, j, v, w, w', _, _ => by simp [ph]
  | L :: M :: r, h, 0, j, v, w, w', ht, hs => turnr_all T L M h.1 j v w w' ht hs
  | L :: M :: r, h, k + 1, j, v, w, w', ht, hs => ph_turnr h.2 k j v w w' ht hs
theorem turnr_keep {T : World → World → Prop} {p : Value → World → Prop} (h : Keeps T p) : ∀ (v : Value) (w w' : World), T w w' → p v w → p v w' := h
theorem turnr_true (T : World → World → Prop) (p : Value → World → Prop) : ∀ (v : Value) (w w' : World), T w w' → p v w → (fun _ _ => True : Value → World → Prop) v w' := fun _ _ _ _ _ => trivial
theorem turnr_false (T : World → World → Prop) (q : Value → World → Prop) : ∀ (v : Value) (w w' : World), T w w' → (fun _ _ => False : Value → World → Prop) v w → q v w' := fun _ _ _ _ h => h.elim
theorem keepg_own {g B : Nat} (hg : g < B) (e : TypeId) (size n : Nat) (xs : List Value) : Keeps (fun W W' => OnlyF (fun k => k = g) W W') fun v w => w.ownsRow B e size v n xs := fun _ _ _ ho h => ho.own h (fun k hk e => by have := (h.lt k hk).1; omega)
theorem keepg_two {g B : Nat} (hg : g < B) (l1 : List Sec) (l2 : List Wr) : Keeps (fun W W' => OnlyF (fun k => k = g) W W') fun v w => ∃ v1 v2, v = .tuple #[v1, v2] ∧ w.ownsRow B 66 32 v1 l1.length (l1.flatMap cellsS) ∧ w.ownsRow B 108 36 v2 l2.length (l2.flatMap cellsW) :=
  fun _ _ _ ho ⟨v1, v2, e, h1, h2⟩ => ⟨v1, v2, e, ho.own h1 (fun k hk e => by have := (h1.lt k hk).1; omega), ho.own h2 (fun k hk e => by have := (h2.lt k hk).1; omega)⟩
theorem cf105 (args : Array Value) (w : World) : (callFunc 105 args).run Try.prog w = .ok (.enter 105 args) w := by kernel_rfl
theorem st40 {g : Nat} {W : World} {i : Nat} {u : Value} {A : Option Addr} {n c : Nat} (h : W.cell? ⟨g, i, none⟩ = some u) (hf : W.frozen? ⟨g, i, none⟩ = false) : (Instr.storeAt 40 (.pointer (some ⟨g, i, none⟩)) (.slice A n c)).run Try.prog W = .ok () (W.setCell ⟨g, i, none⟩ (.slice A n c)) := by go_simp
theorem bld70_0 (w : World) : (Instr.buildSlice 70 0 #[]).run Try.prog w = .ok (.slice (some ⟨w.heap.size, 0, none⟩) 0 0) (w.alloc (.cells #[] 69)) := by kernel_rfl
theorem only_slot {w w' : World} {b n c : Nat} (h : w.grownBy w' (Value.slice (some ⟨b, 0, none⟩) n c).ownBlock) : OnlyF (fun k => k = b) w w' := (OnlyF.refl _ w).grown h (fun k e _ => by cases e; rfl)
def Rk.md (R : Rk) (ts : List Tg) : Wr → Bool := madeB ts (topN R.wait ts R.wait.length)
def Rk.settle (R : Rk) (ts : List Tg) : Rk :=
  { R with safe := safeN R.wait (R.md ts) R.safe R.wait.length, wait := leftN R.wait (R.md ts) (lastN R.wait (R.md ts) R.wait.length) R.wait.length }
def Rk.synced (R : Rk) (ts : List Tg) (A : Option Addr) (c : Nat) : Rk := { R.next.settle ts with log := R.log ++ [⟨2, zeroWr, ts, A, c⟩] }
def RSyncTo (w : World) (F : Nat → Prop) (g : Nat) (R : Rk) (ts : List Tg) (o : Ending) (w' : World) : Prop :=
  (R.fails = true ∧ o = .returned (.int .i64 3) ∧ RTurned w F g R.next w') ∨ (R.fails = false ∧ o = .returned (.int .i64 0) ∧ ∃ A c, RTurned w F g (R.synced ts A c) w')
theorem RefV.setTwo {w w1 : World} {F : Nat → Prop} {g : Nat} {R : Rk} {sv wv lv fv v1 v2 : Value} (h : RefV w F g R sv wv lv fv) (hb : Below w.heap.size w w1) {l1 : List Sec} {l2 : List Wr} (ho1 : w1.ownsRow w.heap.size 66 32 v1 l1.length (l1.flatMap cellsS))
    (ho2 : (w1.setCell ⟨g, 0, none⟩ v1).ownsRow w.heap.size 108 36 v2 l2.length (l2.flatMap cellsW)) :
    ∃ F', RefV ((w1.setCell ⟨g, 0, none⟩ v1).setCell ⟨g, 1, none⟩ v2) F' g { R with safe := l1, wait := l2 } v1 v2 lv fv ∧ Wider F F' w ((w1.setCell ⟨g, 0, none⟩ v1).setCell ⟨g, 1, none⟩ v2) ∧ OnlyF F w ((w1.setCell ⟨g, 0, none⟩ v1).setCell ⟨g, 1, none⟩ v2) := by
  obtain ⟨F1, h1, hw1, hO1⟩ := h.setSafe hb ho1
  obtain ⟨w2, hw2⟩ : ∃ w2, w1.setCell ⟨g, 0, none⟩ v1 = w2 := ⟨_, rfl⟩
  have e2 : w2.heap.size = w1.heap.size := by rw [← hw2]; simp
  rw [hw2] at ho2 h1 hw1 hO1 ⊢
  obtain ⟨hO, hO', hB, hR, _⟩ := h1.store (Below.refl _ w2) 1 v2
  have e3 : (w2.setCell ⟨g, 1, none⟩ v2).heap.size = w2.heap.size := by simp
  have hgl := h.lt g h.own
  have hro : (w2.setCell ⟨g, 1, none⟩ v2).ownsRow w.heap.size 108 36 v2 l2.length (l2.flatMap cellsW) := hO.own ho2 (fun k hk e => by have := (ho2.lt k hk).1; omega)
  have hmore : ∀ k, More F1 w2 w2 k → F1 k := fun k hk => hk.elim id (fun h => by omega)
  have up : ∀ {e : TypeId} {size n : Nat} {u : Value} {xs : List Value}, RowF (w2.setCell ⟨g, 1, none⟩ v2) (More F1 w2 w2) e size u n xs → RowF (w2.setCell ⟨g, 1, none⟩ v2) (fun k => F1 k ∨ (w.heap.size ≤ k ∧ k < w2.heap.size)) e size u n xs := fun hr => hr.mono (fun k hk => .inl (hmore k hk))
  refine ⟨fun k => F1 k ∨ (w.heap.size ≤ k ∧ k < w2.heap.size), ⟨by simpa [cellsR] using hB, .inl h1.own, fun k hk => by rw [e3]; exact hk.elim (fun h' => h1.lt k h') (fun h' => h'.2), up (hR (by decide) h1.safe), ⟨own_base hro (Nat.zero_le _), fun k hk => .inr ?_⟩, up (hR (by decide) h1.log), up (hR (by decide) h1.bad), fun e he => up (hR (by decide) (h1.tags e he))⟩, fun k hk => ?_, ?_⟩
  · exact ⟨(ho2.lt k hk).1, (ho2.lt k hk).2⟩
  · rw [e3]
    rcases hk with hk | hk
    · exact hw1 k hk
    · exact .inr hk
  · exact hO1.trans hO' (fun k hk hf => (hw1 k hf).elim id (fun h => by omega))
def rsA0 (g q c1 n c2 p c3 B : Nat) (A1 A2 A3 : Option Addr) (l1 : List Sec) (l2 : List Wr) : Lvs :=
  [eqv (.pointer (some ⟨g, 0, none⟩)),
   eqv (.pointer (some ⟨g, 0, none⟩)),
   eqv (.pointer (some ⟨g, 0, none⟩)),
   eqv (.pointer (some ⟨g, 0, none⟩)),
   eqv (.pointer (some ⟨g, 0, none⟩)),
   eqv (.slice A1 q c1),
   eqv (.pointer (some ⟨g, 0, none⟩)),
   eqv (.pointer (some ⟨g, 0, none⟩)),
   eqv (.pointer (some ⟨g, 1, none⟩)),
   eqv (.slice A2 n c2),
   eqv (.slice A3 p c3),
   fun _ _ => False,
   fun _ _ => False,
   fun _ _ => False,
   fun _ _ => False,
   fun _ _ => False,
   fun _ _ => False,
   fun _ _ => False,
   fun _ _ => False,
   fun _ _ => False,
   fun _ _ => False]
def rsA1 (g q c1 n c2 p c3 B : Nat) (A1 A2 A3 : Option Addr) (l1 : List Sec) (l2 : List Wr) : Lvs :=
  [eqv (.pointer (some ⟨g, 0, none⟩)),
   eqv (.pointer (some ⟨g, 0, none⟩)),
   eqv (.pointer (some ⟨g, 0, none⟩)),
   eqv (.pointer (some ⟨g, 0, none⟩)),
   eqv (.pointer (some ⟨g, 0, none⟩)),
   eqv (.slice A1 q c1),
   eqv (.pointer (some ⟨g, 0, none⟩)),
   eqv (.pointer (some ⟨g, 0, none⟩)),
   eqv (.pointer (some ⟨g, 1, none⟩)),
   eqv (.slice A2 n c2),
   eqv (.slice A3 p c3),
   fun v w => ∃ v1 v2, v = .tuple #[v1, v2] ∧ w.ownsRow B 66 32 v1 l1.length (l1.flatMap cellsS) ∧ w.ownsRow B 108 36 v2 l2.length (l2.flatMap cellsW),
   fun v w => ∃ v1 v2, v = .tuple #[v1, v2] ∧ w.ownsRow B 66 32 v1 l1.length (l1.flatMap cellsS) ∧ w.ownsRow B 108 36 v2 l2.length (l2.flatMap cellsW),
   fun v w => w.ownsRow B 66 32 v l1.length (l1.flatMap cellsS),
   fun v w => w.ownsRow B 108 36 v l2.length (l2.flatMap cellsW),
   eqv (.pointer (some ⟨g, 0, none⟩)),
   eqv (.pointer (some ⟨g, 0, none⟩)),
   fun _ _ => False,
   fun _ _ => False,
   fun _ _ => False,
   fun _ _ => False]
def rsA2 (g q c1 n c2 p c3 B : Nat) (A1 A2 A3 : Option Addr) (l1 : List Sec) (l2 : List Wr) : Lvs :=
  [eqv (.pointer (some ⟨g, 0, none⟩)),
   eqv (.pointer (some ⟨g, 0, none⟩)),
   eqv (.pointer (some ⟨g, 0, none⟩)),
   eqv (.pointer (some ⟨g, 0, none⟩)),
   eqv (.pointer (some ⟨g, 0, none⟩)),
   eqv (.slice A1 q c1),
   eqv (.pointer (some ⟨g, 0, none⟩)),
   eqv (.pointer (some ⟨g, 0, none⟩)),
   eqv (.pointer (some ⟨g, 1, none⟩)),
   eqv (.slice A2 n c2),
   eqv (.slice A3 p c3),
   fun v w => ∃ v1 v2, v = .tuple #[v1, v2] ∧ w.ownsRow B 66 32 v1 l1.length (l1.flatMap cellsS) ∧ w.ownsRow B 108 36 v2 l2.length (l2.flatMap cellsW),
   fun v w => ∃ v1 v2, v = .tuple #[v1, v2] ∧ w.ownsRow B 66 32 v1 l1.length (l1.flatMap cellsS) ∧ w.ownsRow B 108 36 v2 l2.length (l2.flatMap cellsW),
   fun v w => w.ownsRow B 66 32 v l1.length (l1.flatMap cellsS),
   fun v w => w.ownsRow B 108 36 v l2.length (l2.flatMap cellsW),
   eqv (.pointer (some ⟨g, 0, none⟩)),
   eqv (.pointer (some ⟨g, 0, none⟩)),
   fun _ _ => True,
   eqv (.pointer (some ⟨g, 0, none⟩)),
   eqv (.pointer (some ⟨g, 1, none⟩)),
   fun _ _ => False]
def rsA3 (g q c1 n c2 p c3 B : Nat) (A1 A2 A3 : Option Addr) (l1 : List Sec) (l2 : List Wr) : Lvs :=
  [eqv (.pointer (some ⟨g, 0, none⟩)),
   eqv (.pointer (some ⟨g, 0, none⟩)),
   eqv (.pointer (some ⟨g, 0, none⟩)),
   eqv (.pointer (some ⟨g, 0, none⟩)),
   eqv (.pointer (some ⟨g, 0, none⟩)),
   eqv (.slice A1 q c1),
   eqv (.pointer (some ⟨g, 0, none⟩)),
   eqv (.pointer (some ⟨g, 0, none⟩)),
   eqv (.pointer (some ⟨g, 1, none⟩)),
   eqv (.slice A2 n c2),
   eqv (.slice A3 p c3),
   fun v w => ∃ v1 v2, v = .tuple #[v1, v2] ∧ w.ownsRow B 66 32 v1 l1.length (l1.flatMap cellsS) ∧ w.ownsRow B 108 36 v2 l2.length (l2.flatMap cellsW),
   fun v w => ∃ v1 v2, v = .tuple #[v1, v2] ∧ w.ownsRow B 66 32 v1 l1.length (l1.flatMap cellsS) ∧ w.ownsRow B 108 36 v2 l2.length (l2.flatMap cellsW),
   fun v w => w.ownsRow B 66 32 v l1.length (l1.flatMap cellsS),
   fun v w => w.ownsRow B 108 36 v l2.length (l2.flatMap cellsW),
   eqv (.pointer (some ⟨g, 0, none⟩)),
   eqv (.pointer (some ⟨g, 0, none⟩)),
   fun _ _ => True,
   eqv (.pointer (some ⟨g, 0, none⟩)),
   eqv (.pointer (some ⟨g, 1, none⟩)),
   fun _ _ => True]
theorem rsA_keep (g q c1 n c2 p c3 B : Nat) (A1 A2 A3 : Option Addr) (l1 : List Sec) (l2 : List Wr) (hg : g < B) : ∀ L ∈ [rsA0 g q c1 n c2 p c3 B A1 A2 A3 l1 l2, rsA1 g q c1 n c2 p c3 B A1 A2 A3 l1 l2, rsA2 g q c1 n c2 p c3 B A1 A2 A3 l1 l2, rsA3 g q c1 n c2 p c3 B A1 A2 A3 l1 l2], ∀ q ∈ L, Keeps (fun W W' => OnlyF (fun k => k = g) W W') q := by
  simp only [rsA0, rsA1, rsA2, rsA3, List.forall_mem_cons]
  refine ⟨?_, ?_, ?_, ?_, by simp⟩
  all_goals
    repeat (first | refine ⟨keep_eqv _ _, ?_⟩ | refine ⟨keep_pure _ _, ?_⟩ | refine ⟨keepg_own hg _ _ _ _, ?_⟩ | refine ⟨keepg_two hg l1 l2, ?_⟩)
    simp
theorem rsA_turns (g q c1 n c2 p c3 B : Nat) (A1 A2 A3 : Option Addr) (l1 : List Sec) (l2 : List Wr) (hg : g < B) : TurnsR (fun W W' => OnlyF (fun k => k = g) W W') [rsA0 g q c1 n c2 p c3 B A1 A2 A3 l1 l2, rsA1 g q c1 n c2 p c3 B A1 A2 A3 l1 l2, rsA2 g q c1 n c2 p c3 B A1 A2 A3 l1 l2, rsA3 g q c1 n c2 p c3 B A1 A2 A3 l1 l2] := by
  simp only [rsA0, rsA1, rsA2, rsA3, TurnsR, TurnR]
  refine ⟨?_, ?_, ?_, trivial⟩
  all_goals
    repeat (first | refine ⟨turnr_keep (keep_eqv _ _), ?_⟩ | refine ⟨turnr_true _ _, ?_⟩ | refine ⟨turnr_false _ _, ?_⟩ | refine ⟨turnr_keep (keepg_own hg _ _ _ _), ?_⟩ | refine ⟨turnr_keep (keepg_two hg l1 l2), ?_⟩)
    trivial
set_option maxRecDepth 100000 in
set_option maxHeartbeats 8000000 in
theorem rsync_any {w : World} {F : Nat → Prop} {g : Nat} {R : Rk} {sv wv lv fv : Value} (h : RefV w F g R sv wv lv fv) (hq : 0 < R.safe.length) (hql : R.safe.length ≤ 1000) (hn : R.asked ≤ 1000000) (hb : R.bad.length ≤ 100000) (hw : R.wait.length ≤ 1000) (hl : R.log.length ≤ 100000) (hok : ∀ x ∈ R.wait, atIn x.at_ R.safe.length = true)
    (A3 : Option Addr) (c3 : Nat) (ts : List Tg) (hts : ts.length ≤ 1000) (hr : ∀ W, OnlyF F w W → Reads W W.heap.size 2 A3 ts.length (ts.flatMap cellsT)) :
    Calls Try.prog 95 #[.pointer (some ⟨g, 0, none⟩), .slice A3 ts.length c3] w (RSyncTo w F g R ts) := by
  have CF := rfails_any h hn hb
  obtain ⟨f, hf⟩ : ∃ f, R.fails = f := ⟨_, rfl⟩
  rw [hf] at CF
  have HCF := Lib.hid CF
  have HLT := Lib.hid h.lt
  have HOWN := Lib.hid h.own
  have HRT := Lib.hid hr
  have HF := Lib.hid hf
  have HOK := Lib.hid hok
  have HQ0 := Lib.hid hq
  have HQL := Lib.hid hql
  have HWL := Lib.hid hw
  have HLL := Lib.hid hl
  have HTL := Lib.hid hts
  obtain ⟨A1, c1, rfl, _⟩ := own_slice h.safe.1
  obtain ⟨A2, c2, rfl, _⟩ := own_slice h.wait.1
  clear h hr hok hq hql hw hl hts hn hb CF hf
  cases f with
  | true =>
    go_enter Try.func95, Try.ntmps95
    go_wp2_with fail
    refine HCF.out.mono ?_
    rintro o w2 ⟨rfl, h2, ho2⟩
    have H2 := Lib.hid h2
    have HO2 := Lib.hid ho2
    clear h2 ho2
    go_wp2_with fail
    go_ret
    exact .inl ⟨HF.out, rfl, F, ⟨_, _, _, _, H2.out⟩, Wider.refl _ _ _, HO2.out.mono (fun k hk => by subst hk; exact HOWN.out)⟩
  | false =>
    obtain ⟨p, hp⟩ : ∃ p, p = ts.length := ⟨_, rfl⟩
    have HP := Lib.hid hp
    rw [← hp]
    clear hp
    go_enter Try.func95, Try.ntmps95
    go_wp2_with fail
    refine HCF.out.mono ?_
    rintro o w2 ⟨rfl, h2, ho2⟩
    have hOF : OnlyF F w w2 := ho2.mono (fun k hk => by subst hk; exact HOWN.out)
    obtain ⟨R1, hR1⟩ : ∃ R1, R1 = R.next := ⟨_, rfl⟩
    have hs1 : R1.safe.length = R.safe.length := by rw [hR1]; rfl
    have hs2 : R1.wait.length = R.wait.length := by rw [hR1]; rfl
    have hs3 : R1.log.length = R.log.length := by rw [hR1]; rfl
    have hsy : ∀ A c, R.synced ts A c = { R1.settle ts with log := (R1.settle ts).log ++ [⟨2, zeroWr, ts, A, c⟩] } := fun A c => by rw [hR1]; rfl
    have hok1 : ∀ x ∈ R1.wait, atIn x.at_ R1.safe.length = true := by rw [hR1]; exact HOK.out
    rw [← hR1, ← hs1, ← hs2] at h2
    have HSY := Lib.hid hsy
    have HL1 : Hid (R1.log.length ≤ 100000) := Lib.hid (by rw [hs3]; exact HLL.out)
    have hset : R1.settle ts = { R1 with safe := (R1.settle ts).safe, wait := (R1.settle ts).wait } := rfl
    have hrt := HRT.out w2 hOF
    have hcs : ∀ W, Below w2.heap.size w2 W → Calls Try.prog 105 #[.slice A1 R1.safe.length c1, .slice A2 R1.wait.length c2, .slice A3 ts.length c3] W (SetTo W (R1.settle ts).safe (R1.settle ts).wait) := fun W hbl =>
      rsettle_any A1 A2 A3 c1 c2 c3 R1.safe R1.wait ts W (by rw [hs1]; exact HQ0.out) (by rw [hs1]; exact HQL.out) (by rw [hs2]; exact HWL.out) HTL.out (((Reads.of_own h2.safe.1).below hbl).more hbl.size) (((Reads.of_own h2.wait.1).below hbl).more hbl.size) ((hrt.below hbl).more hbl.size) hok1
    obtain ⟨l1, hl1⟩ : ∃ l1, l1 = (R1.settle ts).safe := ⟨_, rfl⟩
    obtain ⟨l2, hl2⟩ : ∃ l2, l2 = (R1.settle ts).wait := ⟨_, rfl⟩
    rw [← hl1, ← hl2, ← HP.out] at hcs
    obtain ⟨q, hq⟩ : ∃ q, q = R1.safe.length := ⟨_, rfl⟩
    obtain ⟨n, hn⟩ : ∃ n, n = R1.wait.length := ⟨_, rfl⟩
    rw [← hq, ← hn] at h2 hcs
    rw [← HP.out] at hrt
    have HCS := Lib.hid hcs
    have HRV := Lib.hid h2
    have HGB : Hid (g < w2.heap.size) := Lib.hid (h2.lt g h2.own)
    have HO2 := Lib.hid hOF
    have HRTT := Lib.hid hrt
    have HL12 := Lib.hid (And.intro hl1 hl2)
    clear hcs h2 hOF ho2 hR1 hs1 hs2 hs3 hsy hok1 hset hl1 hl2 hrt hq hn HOK HQ0 HQL HWL HLL HCF
    go_wp2_with fail
    refine Ph.wp_region_all (ph [rsA0 g q c1 n c2 p c3 w2.heap.size A1 A2 A3 l1 l2, rsA1 g q c1 n c2 p c3 w2.heap.size A1 A2 A3 l1 l2, rsA2 g q c1 n c2 p c3 w2.heap.size A1 A2 A3 l1 l2, rsA3 g q c1 n c2 p c3 w2.heap.size A1 A2 A3 l1 l2]) (fun k _ W => match k with | 0 => Below w2.heap.size w2 W | 1 => Below w2.heap.size w2 W | 2 => ∃ W1 v1, W = W1.setCell ⟨g, 0, none⟩ v1 ∧ Below w2.heap.size w2 W1 ∧ W1.ownsRow w2.heap.size 66 32 v1 l1.length (l1.flatMap cellsS) | 3 => ∃ W1 v1 v2, W = (W1.setCell ⟨g, 0, none⟩ v1).setCell ⟨g, 1, none⟩ v2 ∧ Below w2.heap.size w2 W1 ∧ W1.ownsRow w2.heap.size 66 32 v1 l1.length (l1.flatMap cellsS) ∧ (W1.setCell ⟨g, 0, none⟩ v1).ownsRow w2.heap.size 108 36 v2 l2.length (l2.flatMap cellsW) | _ => False) (fun W W' => OnlyF (fun k => k = g) W W') (fun _ W W' => OnlyF (fun k => k = g) W W') [11, 17, 20] [some 8, some 9, some 10, some 11, some 12, some 13, some 14, some 15, some 16, some 17, some 18, some 19, some 7, some 20, some 21, some 22, some 23, none, some 24, some 25, none] mixedP (by kernel_rfl) (by kernel_rfl) (by kernel_rfl) (by kernel_rfl) (ph_keep (rsA_keep g q c1 n c2 p c3 w2.heap.size A1 A2 A3 l1 l2 HGB.out)) (fun k j v W W' ht hs => ph_turnr (rsA_turns g q c1 n c2 p c3 w2.heap.size A1 A2 A3 l1 l2 HGB.out) k j v W W' ht hs) (Below.refl _ _).drew ?steps ?fin
    case steps =>
      refine all_lt 21 ?_
      simp only [AllLt]
      refine ⟨?_, ?_, ?_, ?_, ?_, ?_, ?_, ?_, ?_, ?_, ?_, ?_, ?_, ?_, ?_, ?_, ?_, ?_, ?_, ?_, ?_, trivial⟩
      · refine step_upto (by kernel_rfl) 1 [] (by kernel_rfl) fun k hk a W hJ hf => ?_
        rcases k with _ | k
        · have h0 : a.tmps[0]? = some (.pointer (some ⟨g, 0, none⟩)) := hf.old 0 (by kernel_rfl)
          apply op_value
          case ho => rfl
          case hw => exact (wanted_none rfl)
          case hrun => exact run_move (.inl rfl) (eval_tmp h0)
          case hS => exact rfl
          case hk => exact (OnlyF.refl _ _)
          case hJ => exact hJ
        rcases k with _ | k
        · have h0 : a.tmps[0]? = some (.pointer (some ⟨g, 0, none⟩)) := hf.old 0 (by kernel_rfl)
          apply op_value
          case ho => rfl
          case hw => exact (wanted_none rfl)
          case hrun => exact run_move (.inl rfl) (eval_tmp h0)
          case hS => exact rfl
          case hk => exact (OnlyF.refl _ _)
          case hJ => exact hJ
        · omega
      · refine step_upto (by kernel_rfl) 2 [] (by kernel_rfl) fun k hk a W hJ hf => ?_
        rcases k with _ | k
        · have h0 : a.tmps[0]? = some (.pointer (some ⟨g, 0, none⟩)) := hf.old 0 (by kernel_rfl)
          apply op_value
          case ho => rfl
          case hw => exact (wanted_none rfl)
          case hrun => exact run_move (.inl rfl) (eval_tmp h0)
          case hS => exact rfl
          case hk => exact (OnlyF.refl _ _)
          case hJ => exact hJ
        rcases k with _ | k
        · have h0 : a.tmps[0]? = some (.pointer (some ⟨g, 0, none⟩)) := hf.old 0 (by kernel_rfl)
          apply op_value
          case ho => rfl
          case hw => exact (wanted_none rfl)
          case hrun => exact run_move (.inl rfl) (eval_tmp h0)
          case hS => exact rfl
          case hk => exact (OnlyF.refl _ _)
          case hJ => exact hJ
        rcases k with _ | k
        · have h0 : a.tmps[0]? = some (.pointer (some ⟨g, 0, none⟩)) := hf.old 0 (by kernel_rfl)
          apply op_value
          case ho => rfl
          case hw => exact (wanted_none rfl)
          case hrun => exact run_move (.inl rfl) (eval_tmp h0)
          case hS => exact rfl
          case hk => exact (OnlyF.refl _ _)
          case hJ => exact hJ
        · omega
      · refine step_upto (by kernel_rfl) 0 [5, 4, 3] (by kernel_rfl) fun k hk a W hJ hf => ?_
        rcases k with _ | k
        · have h0 : a.tmps[0]? = some (.pointer (some ⟨g, 0, none⟩)) := hf.old 0 (by kernel_rfl)
          apply op_value
          case ho => rfl
          case hw => exact (wanted_none rfl)
          case hrun => exact run_move (.inl rfl) (eval_tmp h0)
          case hS => exact rfl
          case hk => exact (OnlyF.refl _ _)
          case hJ => exact hJ
        · omega
      · refine step_upto (by kernel_rfl) 0 [5, 4] (by kernel_rfl) fun k hk a W hJ hf => ?_
        rcases k with _ | k
        · obtain ⟨v10, h10, rfl⟩ := hf.get 2 10 (by kernel_rfl) (by kernel_rfl)
          apply op_value
          case ho => rfl
          case hw => exact (wanted_none rfl)
          case hrun => exact run_nilCheck rfl (eval_tmp h10)
          case hS => exact rfl
          case hk => exact (OnlyF.refl _ _)
          case hJ => exact hJ
        · omega
      · refine step_upto (by kernel_rfl) 0 [5] (by kernel_rfl) fun k hk a W hJ hf => ?_
        rcases k with _ | k
        · obtain ⟨v11, h11, rfl⟩ := hf.get 3 11 (by kernel_rfl) (by kernel_rfl)
          apply op_value
          case ho => rfl
          case hw => exact (wanted_none rfl)
          case hrun => exact run_fieldAddr rfl (eval_tmp h11) (V := (.pointer (some ⟨g, 0, none⟩))) (by go_simp)
          case hS => exact rfl
          case hk => exact (OnlyF.refl _ _)
          case hJ => exact hJ
        · omega
      · refine step_upto (by kernel_rfl) 0 [] (by kernel_rfl) fun k hk a W hJ hf => ?_
        rcases k with _ | k
        · obtain ⟨v12, h12, rfl⟩ := hf.get 4 12 (by kernel_rfl) (by kernel_rfl)
          apply op_value
          case ho => rfl
          case hw => exact (wanted_none rfl)
          case hrun => exact run_load rfl (eval_tmp h12) (ld40 ((HRV.out.below hJ).cell 0))
          case hS => exact rfl
          case hk => exact (OnlyF.refl _ _)
          case hJ => exact hJ
        · omega
      · refine step_upto (by kernel_rfl) 0 [9, 8, 7] (by kernel_rfl) fun k hk a W hJ hf => ?_
        rcases k with _ | k
        · have h0 : a.tmps[0]? = some (.pointer (some ⟨g, 0, none⟩)) := hf.old 0 (by kernel_rfl)
          apply op_value
          case ho => rfl
          case hw => exact (wanted_none rfl)
          case hrun => exact run_move (.inl rfl) (eval_tmp h0)
          case hS => exact rfl
          case hk => exact (OnlyF.refl _ _)
          case hJ => exact hJ
        · omega
      · refine step_upto (by kernel_rfl) 0 [9, 8] (by kernel_rfl) fun k hk a W hJ hf => ?_
        rcases k with _ | k
        · obtain ⟨v14, h14, rfl⟩ := hf.get 6 14 (by kernel_rfl) (by kernel_rfl)
          apply op_value
          case ho => rfl
          case hw => exact (wanted_none rfl)
          case hrun => exact run_nilCheck rfl (eval_tmp h14)
          case hS => exact rfl
          case hk => exact (OnlyF.refl _ _)
          case hJ => exact hJ
        · omega
      · refine step_upto (by kernel_rfl) 0 [9] (by kernel_rfl) fun k hk a W hJ hf => ?_
        rcases k with _ | k
        · obtain ⟨v15, h15, rfl⟩ := hf.get 7 15 (by kernel_rfl) (by kernel_rfl)
          apply op_value
          case ho => rfl
          case hw => exact (wanted_none rfl)
          case hrun => exact run_fieldAddr rfl (eval_tmp h15) (V := (.pointer (some ⟨g, 1, none⟩))) (by go_simp)
          case hS => exact rfl
          case hk => exact (OnlyF.refl _ _)
          case hJ => exact hJ
        · omega
      · refine step_upto (by kernel_rfl) 0 [] (by kernel_rfl) fun k hk a W hJ hf => ?_
        rcases k with _ | k
        · obtain ⟨v16, h16, rfl⟩ := hf.get 8 16 (by kernel_rfl) (by kernel_rfl)
          apply op_value
          case ho => rfl
          case hw => exact (wanted_none rfl)
          case hrun => exact run_load rfl (eval_tmp h16) (ld41 ((HRV.out.below hJ).cell 1))
          case hS => exact rfl
          case hk => exact (OnlyF.refl _ _)
          case hJ => exact hJ
        · omega
      · refine step_upto (by kernel_rfl) 0 [] (by kernel_rfl) fun k hk a W hJ hf => ?_
        rcases k with _ | k
        · have h1 : a.tmps[1]? = some (.slice A3 p c3) := hf.old 1 (by kernel_rfl)
          apply op_value
          case ho => rfl
          case hw => exact (wanted_none rfl)
          case hrun => exact run_move (.inl rfl) (eval_tmp h1)
          case hS => exact rfl
          case hk => exact (OnlyF.refl _ _)
          case hJ => exact hJ
        · omega
      · refine step_eff 0 (by kernel_rfl) (by kernel_rfl) (by kernel_rfl) fun a W hJ hf => ?_
        obtain ⟨v13, h13, rfl⟩ := hf.get 5 13 (by kernel_rfl) (by kernel_rfl)
        obtain ⟨v17, h17, rfl⟩ := hf.get 9 17 (by kernel_rfl) (by kernel_rfl)
        obtain ⟨v18, h18, rfl⟩ := hf.get 10 18 (by kernel_rfl) (by kernel_rfl)
        refine op_call rfl (wanted_none rfl) (run_call rfl (args_three (eval_tmp h13) (eval_tmp h17) (eval_tmp h18)) (cf105 _ _)) ?_
        refine (HCS.out W hJ).mono ?_
        rintro e W' ⟨v1, v2, rfl, ho1, ho2, hb⟩
        exact ⟨_, rfl, ⟨v1, v2, rfl, own_base ho1 hJ.size, own_base ho2 hJ.size⟩, OnlyF.of_below hb, hJ.trans (hb.mono hJ.size)⟩
      · refine step_upto (by kernel_rfl) 1 [] (by kernel_rfl) fun k hk a W hJ hf => ?_
        rcases k with _ | k
        · obtain ⟨_, _, hno⟩ := hf.dep 11 (by kernel_rfl)
          exact hno.elim
        rcases k with _ | k
        · obtain ⟨v19, h19, s1, s2, rfl, o1, o2⟩ := hf.get 11 19 (by kernel_rfl) (by kernel_rfl)
          exact op_value rfl (wanted_none rfl) (run_move (.inl rfl) (eval_tmp h19)) ⟨s1, s2, rfl, o1, o2⟩ (OnlyF.refl _ _) hJ
        · omega
      · refine step_upto (by kernel_rfl) 1 [] (by kernel_rfl) fun k hk a W hJ hf => ?_
        rcases k with _ | k
        · obtain ⟨_, _, hno⟩ := hf.dep 12 (by kernel_rfl)
          exact hno.elim
        rcases k with _ | k
        · obtain ⟨v7, h7, s1, s2, rfl, o1, o2⟩ := hf.get 12 7 (by kernel_rfl) (by kernel_rfl)
          exact op_value rfl (wanted_none rfl) (run_extract rfl (eval_tmp h7) (by rfl)) o1 (OnlyF.refl _ _) hJ
        · omega
      · refine step_upto (by kernel_rfl) 2 [] (by kernel_rfl) fun k hk a W hJ hf => ?_
        rcases k with _ | k
        · obtain ⟨_, _, hno⟩ := hf.dep 12 (by kernel_rfl)
          exact hno.elim
        rcases k with _ | k
        · obtain ⟨v7, h7, s1, s2, rfl, o1, o2⟩ := hf.get 12 7 (by kernel_rfl) (by kernel_rfl)
          exact op_value rfl (wanted_none rfl) (run_extract rfl (eval_tmp h7) (by rfl)) o2 (OnlyF.refl _ _) hJ
        rcases k with _ | k
        · obtain ⟨v7, h7, s1, s2, rfl, o1, o2⟩ := hf.get 12 7 (by kernel_rfl) (by kernel_rfl)
          exact op_value rfl (wanted_none rfl) (run_extract rfl (eval_tmp h7) (by rfl)) o2 (OnlyF.refl _ _) hJ
        · omega
      · refine step_upto (by kernel_rfl) 1 [16] (by kernel_rfl) fun k hk a W hJ hf => ?_
        rcases k with _ | k
        · obtain ⟨_, _, hno⟩ := hf.dep 11 (by kernel_rfl)
          exact hno.elim
        rcases k with _ | k
        · obtain ⟨v8, h8, rfl⟩ := hf.get 0 8 (by kernel_rfl) (by kernel_rfl)
          apply op_value
          case ho => rfl
          case hw => exact (wanted_none rfl)
          case hrun => exact run_nilCheck rfl (eval_tmp h8)
          case hS => exact rfl
          case hk => exact (OnlyF.refl _ _)
          case hJ => exact hJ
        · omega
      · refine step_upto (by kernel_rfl) 1 [] (by kernel_rfl) fun k hk a W hJ hf => ?_
        rcases k with _ | k
        · obtain ⟨_, _, hno⟩ := hf.dep 15 (by kernel_rfl)
          exact hno.elim
        rcases k with _ | k
        · obtain ⟨v22, h22, rfl⟩ := hf.get 15 22 (by kernel_rfl) (by kernel_rfl)
          apply op_value
          case ho => rfl
          case hw => exact (wanted_none rfl)
          case hrun => exact run_fieldAddr rfl (eval_tmp h22) (V := (.pointer (some ⟨g, 0, none⟩))) (by go_simp)
          case hS => exact rfl
          case hk => exact (OnlyF.refl _ _)
          case hJ => exact hJ
        · omega
      · refine step_eff 1 (by kernel_rfl) (by kernel_rfl) (by kernel_rfl) fun a W hJ hf => ?_
        obtain ⟨v23, h23, rfl⟩ := hf.get 16 23 (by kernel_rfl) (by kernel_rfl)
        obtain ⟨v20, h20, o20⟩ := hf.get 13 20 (by kernel_rfl) (by kernel_rfl)
        obtain ⟨B2, c2', rfl, _⟩ := own_slice o20
        have hv := HRV.out.below hJ
        exact op_store rfl (wanted_none rfl) (Ph.run_store rfl (eval_tmp h23) (eval_tmp h20) (st40 (hv.cell 0) (hv.blk.frozen 0))) trivial ((OnlyF.refl _ W).grown (setCell_grown W g 0 _) (fun k e _ => by cases e; rfl)) ⟨W, _, rfl, hJ, o20⟩
      · refine step_upto (by kernel_rfl) 2 [19] (by kernel_rfl) fun k hk a W hJ hf => ?_
        rcases k with _ | k
        · obtain ⟨_, _, hno⟩ := hf.dep 11 (by kernel_rfl)
          exact hno.elim
        rcases k with _ | k
        · obtain ⟨_, _, hno⟩ := hf.dep 17 (by kernel_rfl)
          exact hno.elim
        rcases k with _ | k
        · obtain ⟨v9, h9, rfl⟩ := hf.get 1 9 (by kernel_rfl) (by kernel_rfl)
          apply op_value
          case ho => rfl
          case hw => exact (wanted_none rfl)
          case hrun => exact run_nilCheck rfl (eval_tmp h9)
          case hS => exact rfl
          case hk => exact (OnlyF.refl _ _)
          case hJ => exact hJ
        · omega
      · refine step_upto (by kernel_rfl) 2 [] (by kernel_rfl) fun k hk a W hJ hf => ?_
        rcases k with _ | k
        · obtain ⟨_, _, hno⟩ := hf.dep 18 (by kernel_rfl)
          exact hno.elim
        rcases k with _ | k
        · obtain ⟨_, _, hno⟩ := hf.dep 18 (by kernel_rfl)
          exact hno.elim
        rcases k with _ | k
        · obtain ⟨v24, h24, rfl⟩ := hf.get 18 24 (by kernel_rfl) (by kernel_rfl)
          apply op_value
          case ho => rfl
          case hw => exact (wanted_none rfl)
          case hrun => exact run_fieldAddr rfl (eval_tmp h24) (V := (.pointer (some ⟨g, 1, none⟩))) (by go_simp)
          case hS => exact rfl
          case hk => exact (OnlyF.refl _ _)
          case hJ => exact hJ
        · omega
      · refine step_eff 2 (by kernel_rfl) (by kernel_rfl) (by kernel_rfl) fun a W hJ hf => ?_
        obtain ⟨v25, h25, rfl⟩ := hf.get 19 25 (by kernel_rfl) (by kernel_rfl)
        obtain ⟨v21, h21, o21⟩ := hf.get 14 21 (by kernel_rfl) (by kernel_rfl)
        obtain ⟨W1, v1, rfl, hb, ho1⟩ := hJ
        obtain ⟨B2, c2', rfl, _⟩ := own_slice o21
        have hv := HRV.out.below hb
        have hb1 := hv.blk.set_ 0 v1
        exact op_store rfl (wanted_none rfl) (Ph.run_store rfl (eval_tmp h25) (eval_tmp h21) (st41 (hb1.cell 1) (hb1.frozen 1))) trivial ((OnlyF.refl _ _).grown (setCell_grown _ g 1 _) (fun k e _ => by cases e; rfl)) ⟨W1, v1, _, rfl, hb, ho1, o21⟩
    case fin =>
      intro vs w3 hl hJ hS
      have hl0 : vs.length = 21 := hl
      obtain ⟨y0, r0, rfl, hl1⟩ := cons_of hl0
      obtain ⟨y1, r1, rfl, hl2⟩ := cons_of hl1
      obtain ⟨y2, r2, rfl, hl3⟩ := cons_of hl2
      obtain ⟨y3, r3, rfl, hl4⟩ := cons_of hl3
      obtain ⟨y4, r4, rfl, hl5⟩ := cons_of hl4
      obtain ⟨y5, r5, rfl, hl6⟩ := cons_of hl5
      obtain ⟨y6, r6, rfl, hl7⟩ := cons_of hl6
      obtain ⟨y7, r7, rfl, hl8⟩ := cons_of hl7
      obtain ⟨y8, r8, rfl, hl9⟩ := cons_of hl8
      obtain ⟨y9, r9, rfl, hl10⟩ := cons_of hl9
      obtain ⟨y10, r10, rfl, hl11⟩ := cons_of hl10
      obtain ⟨y11, r11, rfl, hl12⟩ := cons_of hl11
      obtain ⟨y12, r12, rfl, hl13⟩ := cons_of hl12
      obtain ⟨y13, r13, rfl, hl14⟩ := cons_of hl13
      obtain ⟨y14, r14, rfl, hl15⟩ := cons_of hl14
      obtain ⟨y15, r15, rfl, hl16⟩ := cons_of hl15
      obtain ⟨y16, r16, rfl, hl17⟩ := cons_of hl16
      obtain ⟨y17, r17, rfl, hl18⟩ := cons_of hl17
      obtain ⟨y18, r18, rfl, hl19⟩ := cons_of hl18
      obtain ⟨y19, r19, rfl, hl20⟩ := cons_of hl19
      obtain ⟨y20, r20, rfl, hl21⟩ := cons_of hl20
      obtain rfl := nil_of hl21
      simp only [putAll, Act.put, List.setIfInBounds_toArray, List.set_cons_zero, List.set_cons_succ]
      obtain ⟨W1, v1, v2, hw3, hb3, ho1, ho2⟩ := hJ
      obtain ⟨F3, h3, hW3, hO3⟩ := HRV.out.setTwo hb3 ho1 ho2
      rw [← hw3] at h3 hW3 hO3
      rw [HL12.out.1, HL12.out.2] at h3
      have hrt3 := HRT.out w3 (HO2.out.trans hO3 (fun _ _ h => h))
      rw [← HP.out] at hrt3
      have HR3 := Lib.hid hrt3
      have HW3 := Lib.hid hW3
      have HO3 := Lib.hid hO3
      clear hS hl hl0 hw3 hb3 ho1 ho2 hrt3 hW3 hO3 HCS HRV HRTT HL12 HRT hl1 hl2 hl3 hl4 hl5 hl6 hl7 hl8 hl9 hl10 hl11 hl12 hl13 hl14 hl15 hl16 hl17 hl18 hl19 hl20 hl21
      obtain ⟨A, c, rfl, _⟩ := own_slice h3.log.1
      have hll : (R1.settle ts).log.length = R1.log.length := rfl
      have hrl := Reads.of_own h3.log.1
      obtain ⟨m, hm⟩ : ∃ m, m = R1.log.length := ⟨_, rfl⟩
      obtain ⟨xs, hxs⟩ : ∃ xs, xs = R1.log.flatMap cellsE := ⟨_, rfl⟩
      rw [show ({ R1 with safe := (R1.settle ts).safe, wait := (R1.settle ts).wait } : Rk) = R1.settle ts from rfl] at h3 hrl
      rw [hll, ← hm] at h3 hrl
      rw [show (R1.settle ts).log.flatMap cellsE = R1.log.flatMap cellsE from rfl, ← hxs] at hrl
      have hxo : ∀ u ∈ xs, u.oneCell' = true := by rw [hxs]; exact evs_one _
      have hml : m ≤ 100000 := by rw [hm]; exact HL1.out
      have hpl : p ≤ 1000 := by rw [HP.out]; exact HTL.out
      obtain ⟨R2, hR2⟩ : ∃ R2, R2 = R1.settle ts := ⟨_, rfl⟩
      have hm2 : m = R2.log.length := by rw [hR2, hll, hm]
      have hxs2 : xs = R2.log.flatMap cellsE := by rw [hR2, hxs]; rfl
      rw [← hR2] at h3 HSY
      have HRV := Lib.hid h3
      have HM := Lib.hid hm2
      have HXS := Lib.hid hxs2
      have HXO := Lib.hid hxo
      have HML := Lib.hid hml
      have HPL := Lib.hid hpl
      have HG3 : Hid (g < w3.heap.size) := Lib.hid (h3.lt g h3.own)
      obtain ⟨w4, hw4⟩ : ∃ w4, w3.alloc (.cells #[] 142) = w4 := ⟨_, rfl⟩
      have hb4 : Below w3.heap.size w3 w4 := by rw [← hw4]; exact (Below.refl _ w3).alloc (Nat.le_refl _) _
      have hlit : w4.ownsRow w3.heap.size 142 38 (.slice (some ⟨w3.heap.size, 0, none⟩) 0 0) 0 [] := by rw [← hw4]; exact World.ownsRow_lit w3 #[] 0 (Nat.le_refl _) (by decide) (by simp)
      have hbl := bld89_0 w3
      rw [hw4] at hbl
      have HBL := Lib.hid hbl
      have HB4 := Lib.hid hb4
      have HLIT := Lib.hid hlit
      have HC4 : Hid (w4.cell? ⟨g, 3, none⟩ = some (.slice A m c)) := Lib.hid ((h3.below hb4).cell 3)
      have HR4 := Lib.hid (hrl.below hb4)
      have HSZ : Hid (w3.heap.size ≤ w4.heap.size) := Lib.hid hb4.size
      obtain ⟨i142, z, hi, hz, hs, hby, hzs⟩ := row142'
      have HI := Lib.hid hi
      have HZ := Lib.hid hz
      have HS := Lib.hid hs
      have HBY := Lib.hid hby
      have HZS := Lib.hid hzs
      obtain ⟨i69, z69, hi9, hz9, hs9, hby9, hzs9⟩ := row69'
      have HI9 := Lib.hid hi9
      have HZ9 := Lib.hid hz9
      have HS9 := Lib.hid hs9
      have HBY9 := Lib.hid hby9
      have HZS9 := Lib.hid hzs9
      have HTS : Hid (∀ u ∈ ts.flatMap cellsT, u.oneCell' = true) := Lib.hid (tags_one ts)
      have HMK : Hid (∀ A c W, (Instr.build 142 #[(0, .int .i64 2), (2, .slice A p c)]).run Try.prog W = .ok (.agg (cellsE ⟨2, zeroWr, ts, A, c⟩).toArray) W) := Lib.hid (fun A c W => by rw [HP.out]; exact mkEs ts A c W)
      clear hi hz hs hby hzs hi9 hz9 hs9 hby9 hzs9 hw4 hb4 hlit hbl hrl hxo hml hpl hm2 hxs2 hR2 h3 hxs hm hll
      go_wp2_with (first
        | (with_reducible show wpList _ _ _ (Oper.mk (some 27) _ _ _ _ _ :: _) _ _; go_must (refine wpList_wrun rfl _ (Ph.run_buildSlice (vs := #[]) rfl (by simp) HBL.out) ?_))
        | (with_reducible show wpList _ _ _ (Oper.mk (some 31) _ _ _ _ _ :: _) _ _; go_must (refine wpList_wrun rfl _ (Ph.run_load (X := .pointer (some ⟨g, 3, none⟩)) rfl rfl (ld89 HC4.out)) ?_))
        | (with_reducible show wpList _ _ _ (Oper.mk (some 32) _ _ _ _ _ :: _) _ _; go_must (refine wpList_append_any _ rfl (.tmp 27) (.tmp 31) 89 rfl w3.heap.size 142 i142 (.agg z) 38 96 Try.underlying89 HI.out HZ.out HS.out HBY.out HZS.out (by decide) (.slice (some ⟨w3.heap.size, 0, none⟩) 0 0) 0 [] rfl HLIT.out w3.heap.size A m c xs rfl HR4.out HXO.out (by unfold maxLen; have := HML.out; omega) (by have := HML.out; omega) HSZ.out ?_; intro v5 w5 hown5 hgrow5 _; rw [Nat.zero_add, List.nil_append] at hown5; have hb5 := below_slot HB4.out hgrow5 HSZ.out (Nat.le_refl _); obtain ⟨w6, hw6⟩ : ∃ w6, w5.alloc (.cells #[] 69) = w6 := ⟨_, rfl⟩; have hb6 : Below w5.heap.size w5 w6 := (by rw [← hw6]; exact (Below.refl _ w5).alloc (Nat.le_refl _) _); have hlit6 : w6.ownsRow w3.heap.size 69 2 (.slice (some ⟨w5.heap.size, 0, none⟩) 0 0) 0 [] := (by rw [← hw6]; exact World.ownsRow_lit w5 #[] 0 hb5.size (by decide) (by simp)); have hbl6 := bld70_0 w5; rw [hw6] at hbl6; have HBL6 := Lib.hid hbl6; have HO5 := Lib.hid hown5; have HO6 := Lib.hid (own_below hown5 hb6); have HB6 := Lib.hid (below_then hb5 hb6); have HLIT6 := Lib.hid hlit6; have HSZ5 := Lib.hid hb5.size; have HSZ6 := Lib.hid (Nat.le_trans hb5.size hb6.size); clear hown5 hgrow5 hb5 hw6 hb6 hlit6 hbl6))
        | (with_reducible show wpList _ _ _ (Oper.mk (some 33) _ _ _ _ _ :: _) _ _; go_must (refine wpList_wrun rfl _ (Ph.run_buildSlice (vs := #[]) rfl (by simp) HBL6.out) ?_))
        | (with_reducible show wpList _ _ _ (Oper.mk (some 35) _ _ _ _ _ :: _) _ _; go_must (refine wpList_append_any _ rfl (.tmp 33) (.tmp 34) 70 rfl w3.heap.size 69 i69 (.agg z69) 2 16 Try.underlying70 HI9.out HZ9.out HS9.out HBY9.out HZS9.out (by decide) (.slice (some ⟨w5.heap.size, 0, none⟩) 0 0) 0 [] rfl HLIT6.out w3.heap.size A3 p c3 (ts.flatMap cellsT) rfl (HR3.out.below HB6.out) HTS.out (by unfold maxLen; have := HPL.out; omega) (by have := HPL.out; omega) HSZ6.out ?_; intro v7 w7 hown7 hgrow7 _; rw [Nat.zero_add, List.nil_append] at hown7; obtain ⟨A7, c7, rfl, _⟩ := own_slice hown7; have hO7 : OnlyF (fun k => k = w5.heap.size) w6 w7 := only_slot hgrow7; have hrow7 := hO7.own HO6.out (fun k hk e => absurd e (Nat.ne_of_lt (HO5.out.lt k hk).2)); have hb7 := below_slot HB6.out hgrow7 HSZ6.out HSZ5.out; obtain ⟨w8, hw8⟩ : ∃ w8, w7.alloc (.cells (cellsE ⟨2, zeroWr, ts, A7, c7⟩).toArray 142) = w8 := ⟨_, rfl⟩; have hb8 : Below w7.heap.size w7 w8 := (by rw [← hw8]; exact (Below.refl _ w7).alloc (Nat.le_refl _) _); have hk8 : Blk w8 w7.heap.size 142 (cellsE ⟨2, zeroWr, ts, A7, c7⟩).toArray := (by rw [← hw8]; exact Blk.new w7 142 _); have hbl8 := bldE ⟨2, zeroWr, ts, A7, c7⟩ w7; rw [hw8] at hbl8; have HBL8 := Lib.hid hbl8; have HT8 := Lib.hid (own_below hown7 hb8); have HO8 := Lib.hid (own_below hrow7 hb8); have HB8 := Lib.hid (below_then hb7 hb8); have HR8 := Lib.hid (reads_blk (size := 38) (n := 1) hk8 (by rw [cellsE_len])); have HSZ8 := Lib.hid (Nat.le_trans hb7.size hb8.size); clear hown7 hgrow7 hO7 hrow7 hb7 hw8 hb8 hk8 hbl8))
        | (with_reducible show wpList _ _ _ (Oper.mk (some 36) _ _ _ _ _ :: _) _ _; go_must (refine wpList_wrun rfl _ (run_build2 (X := .int .i64 2) (Y := .slice A7 p c7) (V := .agg (cellsE ⟨2, zeroWr, ts, A7, c7⟩).toArray) rfl rfl rfl (HMK.out A7 c7 _)) ?_))
        | (with_reducible show wpList _ _ _ (Oper.mk (some 37) _ _ _ _ _ :: _) _ _; go_must (refine wpList_wrun rfl _ (run_bld1 (X := .agg (cellsE ⟨2, zeroWr, ts, A7, c7⟩).toArray) rfl rfl HBL8.out) ?_))
        | (with_reducible show wpList _ _ _ (Oper.mk (some 38) _ _ _ _ _ :: _) _ _; go_must (refine wpList_append_any _ rfl (.tmp 32) (.tmp 37) 89 rfl w3.heap.size 142 i142 (.agg z) 38 96 Try.underlying89 HI.out HZ.out HS.out HBY.out HZS.out (by decide) v5 m xs rfl HO8.out w8.heap.size (some ⟨w7.heap.size, 0, none⟩) 1 1 (cellsE ⟨2, zeroWr, ts, A7, c7⟩) rfl HR8.out (cellsE_one _) (by unfold maxLen; have := HML.out; omega) (by have := HML.out; omega) HSZ8.out ?_; intro v9 w9 hown9 hgrow9 _; obtain ⟨A9, c9, rfl, _⟩ := own_slice hown9; have hb9 := HB8.out.grown hgrow9 HSZ8.out (fun q hq => (HO8.out.lt q hq).1); have ht9 := ((OnlyF.refl (fun k => v5.ownBlock = some k) w8).grown hgrow9 (fun k e _ => e)).own HT8.out (fun k hk hh => absurd hk (own_own_ne HO8.out HT8.out (by decide) hh)); have h9 := HRV.out.below hb9; have hst9 := st89 (A := A9) (n := m + 1) (c := c9) (h9.cell 3) (h9.blk.frozen 3); obtain ⟨w10, hw10⟩ : ∃ w10, w9.setCell ⟨g, 3, none⟩ (.slice A9 (m + 1) c9) = w10 := ⟨_, rfl⟩; rw [hw10] at hst9; have HST9 := Lib.hid hst9; have HB9 := Lib.hid hb9; have HO9 := Lib.hid hown9; have HT9 := Lib.hid ht9; have HW10 := Lib.hid hw10; clear hown9 hgrow9 hb9 h9 hst9 hw10 ht9))
        | (with_reducible show wpList _ _ _ (Oper.mk none (Op.store 89 _ _) _ _ _ _ :: _) _ _; go_must (refine wpList_done rfl w10 (Ph.run_store (X := .pointer (some ⟨g, 3, none⟩)) (Y := .slice A9 (m + 1) c9) rfl rfl rfl HST9.out) ?_)))
      go_ret
      have ho9 : w9.ownsRow w3.heap.size 142 38 (.slice A9 (m + 1) c9) (R2.log ++ [(⟨2, zeroWr, ts, A7, c7⟩ : Ev)]).length ((R2.log ++ [(⟨2, zeroWr, ts, A7, c7⟩ : Ev)]).flatMap cellsE) := by
        rw [append_one, List.length_append, ← HM.out, ← HXS.out]; exact HO9.out
      obtain ⟨F', h10, hw10, ho10⟩ := HRV.out.setLog HB9.out ho9 (fun e he => (List.mem_append.1 he).elim .inl (fun h => .inr (by
        have : e = ⟨2, zeroWr, ts, A7, c7⟩ := by simpa using h
        subst this
        have := HT9.out
        rw [HP.out] at this
        exact this)))
      rw [HW10.out] at h10 hw10 ho10
      refine .inr ⟨HF.out, rfl, A7, c7, ?_⟩
      rw [HSY.out]
      exact RTurned.next HO2.out (Wider.refl _ _ _) (RTurned.next HO3.out HW3.out ⟨F', ⟨_, _, _, _, h10⟩, hw10, ho10⟩)
end Go.Proofs.Ytikhhipgamllgaa

