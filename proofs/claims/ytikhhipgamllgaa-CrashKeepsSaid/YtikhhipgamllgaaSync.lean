/- (*Disk).Sync. Conditions: in each theorem. -/
import Derived.Test.YtikhhipgamllgaaSet
namespace Go.Proofs.Ytikhhipgamllgaa
open Go.RowKit
theorem DiskV.wide {w : World} {F G : Nat → Prop} {g : Nat} {D : Dk} {bv sv wv lv : Value} (h : DiskV w F g D bv sv wv lv) (hG : ∀ k, F k → G k) (hl : ∀ k, G k → k < w.heap.size) : DiskV w G g D bv sv wv lv :=
  ⟨h.blk, hG g h.own, hl, h.bad.mono hG, h.safe.mono hG, h.wait.mono hG, h.log.mono hG, fun e he => (h.tags e he).mono hG⟩
def Dk.synced (D : Dk) (ts : List Tg) (A : Option Addr) (c : Nat) : Dk := { D.next.settle ts with log := D.log ++ [⟨2, zeroWr, ts, A, c⟩] }
def SyncTo (w : World) (F : Nat → Prop) (g : Nat) (D : Dk) (ts : List Tg) (o : Ending) (w' : World) : Prop :=
  (D.fails = true ∧ o = .returned (.int .i64 3) ∧ Turned w F g D.next w') ∨ (D.fails = false ∧ o = .returned (.int .i64 0) ∧ ∃ A c, Turned w F g (D.synced ts A c) w')
theorem alloc69 (w : World) : (Instr.alloc 69 true (.tuple #[])).run Try.prog w = .ok (.pointer (some ⟨w.heap.size, 0, none⟩)) (w.alloc (.cells (cellsT ⟨0, 0⟩).toArray 69)) := by kernel_rfl
theorem z69 (W : World) : (zeroValue 69).run Try.prog W = .ok (.agg (cellsT ⟨0, 0⟩).toArray) W := by kernel_rfl
theorem store69 (w : World) (s t : Tg) : (Instr.storeAt 69 (.pointer (some ⟨w.heap.size, 0, none⟩)) (.agg (cellsT s).toArray)).run Try.prog (w.alloc (.cells (cellsT t).toArray 69)) = .ok () (w.alloc (.cells (cellsT s).toArray 69)) :=
  run_storeAt_new (P := Try.prog) w 69 (cellsT t).toArray (cellsT s).toArray (by rw [List.size_toArray, cellsT_len]; exact info69) (by simp [cellsT_len]) (all_oneCell_toArray (cellsT_one s))
set_option maxHeartbeats 4000000 in
theorem sync_any {w : World} {F : Nat → Prop} {g : Nat} {D : Dk} {bv sv wv lv : Value} (h : DiskV w F g D bv sv wv lv) (hs : 0 < D.safe.length) (hsl : D.safe.length ≤ 1000) (hw : D.wait.length ≤ 1000) (hn : D.nx ≤ 1000000) (hl : D.log.length ≤ 100000) (hokw : ∀ x ∈ D.wait, okW D.safe.length x)
    (A : Option Addr) (c : Nat) (ts : List Tg) (hts : ts.length ≤ 1000) (hokt : ∀ t ∈ ts, okT t) (hr : ∀ W, OnlyF F w W → Reads W W.heap.size 2 A ts.length (ts.flatMap cellsT)) :
    Calls Try.prog 48 #[.pointer (some ⟨g, 0, none⟩), .slice A ts.length c] w (SyncTo w F g D ts) := by
  obtain ⟨f, hf⟩ : ∃ f, D.fails = f := ⟨_, rfl⟩
  have CN := Lib.hid (none_any h hs)
  have CF := fails_any h hn
  rw [hf] at CF
  have CFH := Lib.hid CF
  have HF := Lib.hid h.own
  have HLT := Lib.hid h.lt
  have HR := Lib.hid hr
  have HOW := Lib.hid hokw
  have HOT := Lib.hid hokt
  have HWL := Lib.hid hw
  have HLL := Lib.hid hl
  obtain ⟨n, hnn⟩ : ∃ n, n = ts.length := ⟨_, rfl⟩
  have HN := Lib.hid hnn
  have HFF := Lib.hid hf
  rw [← hnn] at hts
  rw [← hnn]
  clear CF h hf hl hn hr hokw hokt hw hnn
  cases f with
  | true =>
    go_enter Try.func48, Try.ntmps48
    go_wp2_with fail
    refine CN.out.mono ?_
    rintro o w' ⟨rfl, rfl⟩
    go_wp2_with fail
    refine CFH.out.mono ?_
    rintro o w2 ⟨rfl, hd2, hg2⟩
    have HD2 := Lib.hid hd2
    have HG2 := Lib.hid hg2
    clear hd2 hg2
    go_wp2_with fail
    go_ret
    exact .inl ⟨HFF.out, rfl, turned_grown HD2.out HG2.out HF.out⟩
  | false =>
    go_enter Try.func48, Try.ntmps48
    go_wp2_with fail
    refine CN.out.mono ?_
    rintro o w' ⟨rfl, e1⟩
    obtain rfl := e1.symm
    go_wp2_with fail
    refine CFH.out.mono ?_
    rintro o w2 ⟨rfl, hd2, hg2⟩
    replace hd2 : DiskV w2 F g D.next bv sv wv lv := hd2
    have hO2 : OnlyF F w w2 := (OnlyF.refl F w).grown hg2 (fun k e _ => by cases e; exact HF.out)
    have HWL1 : Hid (D.next.wait.length ≤ 1000) := HWL
    have HOW1 : Hid (∀ x ∈ D.next.wait, okW D.next.safe.length x) := HOW
    have hs1 : 0 < D.next.safe.length := hs
    have hsl1 : D.next.safe.length ≤ 1000 := hsl
    have hL1 : ((D.next.settle ts).log.length ≤ 100000) := HLL.out
    have HL1 := Lib.hid hL1
    have hsy : ∀ A c, D.synced ts A c = { D.next.settle ts with log := (D.next.settle ts).log ++ [⟨2, zeroWr, ts, A, c⟩] } := fun _ _ => rfl
    have HSY := Lib.hid hsy
    obtain ⟨D1, hD1⟩ : ∃ D1, D1 = D.next := ⟨_, rfl⟩
    rw [← hD1] at hd2 HWL1 HOW1 hs1 hsl1 HL1 HSY
    clear hD1 hsy hL1 HWL HOW hs hsl HLL
    have HS1 := Lib.hid hs1
    have HSL1 := Lib.hid hsl1
    obtain ⟨b, hb⟩ : ∃ b, w2.heap.size = b := ⟨_, rfl⟩
    obtain ⟨w3, hw3⟩ : ∃ w3, w2.alloc (.map #[] 0) = w3 := ⟨_, rfl⟩
    have hb3 : Below w2.heap.size w2 w3 := by rw [← hw3]; exact (Below.refl _ w2).alloc (Nat.le_refl _) _
    have hm3 : TagMap w3 b [] := by rw [← hw3, ← hb]; exact TagMap.made w2
    have hmk : (Instr.makeMap 144 none).run Try.prog w2 = .ok (.map (some b)) w3 := by rw [← hw3, ← hb]; rfl
    have HM3 := Lib.hid hm3
    have HD3 := Lib.hid (hd2.below hb3)
    have HO3 := Lib.hid (hO2.andThen hb3)
    have HNB : Hid (∀ k, F k → k < b) := Lib.hid (fun k hk => by rw [← hb]; exact hd2.lt k hk)
    have HWB : Hid (w.heap.size ≤ b) := Lib.hid (by rw [← hb]; exact hO2.size)
    clear hd2 hg2 hO2 hb3 hm3 hw3 hb hs1 hsl1
    go_wp2_with fail
    clear hmk
    go_loopw [19] (fun i wr => ∃ k : Nat, k ≤ n ∧ i = .int .i64 k ∧ Hid (TagMap wr b (ts.take k)) ∧ Hid (OnlyF (fun q => q = b) w3 wr)) (fun i _ => n - (intOf i).toNat)
    case atStart => exact ⟨0, by omega, rfl, HM3, Lib.hid (OnlyF.refl _ _)⟩
    case round =>
      obtain ⟨k, hk, rfl, HM, HO⟩ := hrel
      have HOW2 : Hid (OnlyF F w wr) := Lib.hid (HO3.out.trans HO.out (fun q hq e => by have := HWB.out; omega))
      by_cases hlt : k < n
      · obtain ⟨x, hx⟩ : ∃ x, ts[k]? = some x := ⟨_, List.getElem?_eq_getElem (by rw [← HN.out]; exact hlt)⟩
        obtain ⟨bb, o, rfl, hbb, hit⟩ := (HR.out wr HOW2.out).item (f := cellsT) cellsT_len (by omega) (k := k) (by rw [← HN.out]; exact hlt)
        have HIT := Lib.hid (hit k x hx)
        obtain ⟨w4, hw4⟩ : ∃ w4, wr.alloc (.cells (cellsT x).toArray 69) = w4 := ⟨_, rfl⟩
        have hk4 : Blk w4 wr.heap.size 69 (cellsT x).toArray := by rw [← hw4]; exact Blk.new wr 69 _
        have hb4 : Below wr.heap.size wr w4 := by rw [← hw4]; exact (Below.refl _ wr).alloc (Nat.le_refl _) _
        have hst := store69 wr x ⟨0, 0⟩
        rw [hw4] at hst
        have hm4 := HM.out.below hb4 HM.out.lt
        obtain ⟨w5, hup, hm5, hg5⟩ := hm4.put (by rw [List.length_take]; omega) (HOT.out x (List.mem_of_getElem? hx))
        have HTK : Hid (ts.take (k + 1) = ts.take k ++ [x]) := Lib.hid (by rw [List.take_add_one, hx]; rfl)
        have HST := Lib.hid hst
        have HK4 := Lib.hid hk4
        have HUP := Lib.hid hup
        have HM5 := Lib.hid hm5
        have HO5 : Hid (OnlyF (fun q => q = b) w3 w5) := Lib.hid ((HO.out.andThen hb4).grown hg5 (fun q e _ => by cases e; rfl))
        clear hit hx hw4 hk4 hb4 hst hm4 hup hm5 hg5 hbb
        go_wp2_with (first
          | (with_reducible show wpList _ _ _ (Oper.mk (some 22) (Op.load 69 _) _ _ _ _ :: _) _ _; go_must (refine wpList_load_mid rfl 69 (.tmp 21) rfl bb _ rfl (cellsT x) _ HIT.out Try.underlying69 rfl (by rw [cellsT_len]; exact info69) ?_))
          | (with_reducible show wpList _ _ _ (Oper.mk _ (Op.alloc 69) _ _ _ _ :: _) _ _; go_must (refine wpList_run rfl (.pointer (some ⟨wr.heap.size, 0, none⟩)) (wr.alloc (.cells (cellsT ⟨0, 0⟩).toArray 69)) (Ph.run_alloc (z := .agg (cellsT ⟨0, 0⟩).toArray) rfl (z69 wr)) ?_))
          | (with_reducible show wpList _ _ _ (Oper.mk none (Op.store 69 _ _) _ _ _ _ :: _) _ _; go_must (refine wpList_done rfl w4 (Ph.run_store (X := .pointer (some ⟨wr.heap.size, 0, none⟩)) (Y := .agg (cellsT x).toArray) rfl rfl rfl HST.out) ?_))
          | (with_reducible show wpList _ _ _ (Oper.mk (some 24) (Op.load 69 _) _ _ _ _ :: _) _ _; go_must (refine wpList_load_mid rfl 69 (.tmp 7) rfl wr.heap.size 0 rfl (cellsT x) _ (range0 HK4.out) Try.underlying69 rfl (by rw [cellsT_len]; exact info69) ?_))
          | (with_reducible show wpList _ _ _ (Oper.mk none (Op.mapUpdate _ _ _ _) _ _ _ _ :: _) _ _; go_must (refine wpList_done rfl w5 (run_mapUpdate (M := .map (some b)) (X := .agg (cellsT x).toArray) (V := .int .i64 1) rfl rfl rfl rfl HUP.out) ?_)))
        exact ⟨⟨k + 1, by omega, by go_num, Lib.hid (by rw [HTK.out]; exact HM5.out), HO5⟩, by simp [intOf]; omega⟩
      · have hkn : k = n := by omega
        subst hkn
        have hm := HM.out
        rw [List.take_of_length_le (by rw [← HN.out]; exact Nat.le_refl _)] at hm
        have hdr : DiskV wr F g D1 bv sv wv lv := HD3.out.keep HO.out (fun q hq e => by have := HNB.out q hq; omega)
        have CS := settle_any hdr HS1.out HSL1.out HWL1.out b ts hm (fun hb => by have := HNB.out b hb; omega) HOW1.out
        have HCS := Lib.hid CS
        clear hm hdr CS
        go_wp2_with fail
        refine HCS.out.mono ?_
        rintro o w5 ⟨rfl, F5, wv5, hd5, hw5, ho5⟩
        have hO5 : OnlyF F w w5 := HOW2.out.trans ho5 (fun _ _ h => h)
        have hr5 := HR.out w5 hO5
        have HCT := Lib.hid (clone_tags A c ts w5 (by rw [← HN.out]; exact hts) hr5)
        rw [← HN.out] at HCT
        have HD5 := Lib.hid hd5
        have HW5 := Lib.hid hw5
        have HO5 := Lib.hid hO5
        clear hd5 hw5 ho5 hO5 hr5
        go_wp2_with fail
        refine HCT.out.mono ?_
        rintro o w6 ⟨v6, rfl, hv6, hb6⟩
        obtain ⟨A6, c6, rfl, _⟩ := own_slice hv6
        have hd6 : DiskV w6 (fun q => F5 q ∨ (Value.slice A6 k c6).ownBlock = some q) g (D1.settle ts) bv sv wv5 lv := (HD5.out.below hb6).wide (fun _ h => .inl h) (fun q hq => hq.elim (fun h => Nat.lt_of_lt_of_le (HD5.out.lt q h) hb6.size) (fun h => (hv6.lt q h).2))
        have hrow : RowF w6 (fun q => F5 q ∨ (Value.slice A6 k c6).ownBlock = some q) 69 2 (.slice A6 k c6) k (ts.flatMap cellsT) := ⟨own_base hv6 (Nat.zero_le _), fun q h => .inr h⟩
        have HWW : Hid (∀ q, (F5 q ∨ (Value.slice A6 k c6).ownBlock = some q) → F q ∨ (w.heap.size ≤ q ∧ q < w6.heap.size)) := Lib.hid (fun q hq => hq.elim (fun h => (HW5.out q h).elim .inl (fun h => .inr ⟨Nat.le_trans HOW2.out.size h.1, Nat.lt_of_lt_of_le h.2 hb6.size⟩)) (fun h => .inr ⟨Nat.le_trans HO5.out.size (hv6.lt q h).1, (hv6.lt q h).2⟩))
        have HO6 := Lib.hid (HO5.out.andThen hb6)
        rw [HN.out] at hrow hd6 HWW
        have HNE := Lib.hid (note_any hd6 ⟨2, zeroWr, ts, A6, c6⟩ HL1.out hrow)
        have hev : Ev.v ⟨2, zeroWr, ts, A6, c6⟩ = .slice A6 k c6 := by unfold Ev.v; rw [HN.out]
        have hmk := fun W => mkEs ts A6 c6 W
        rw [← HN.out] at hmk
        have HMK := Lib.hid hmk
        clear hd6 hrow hv6 hb6 hmk
        go_wp2_with (first | (with_reducible show wpList _ _ _ (Oper.mk _ (Op.build 142 _) _ _ _ _ :: _) _ _; go_must (refine wpList_run rfl _ _ (run_build2 (X := .int .i64 2) (Y := .slice A6 k c6) (V := .agg (cellsE ⟨2, zeroWr, ts, A6, c6⟩).toArray) rfl rfl rfl (HMK.out w6)) ?_)))
        refine HNE.out.mono ?_
        rintro o w7 ⟨rfl, F7, lv7, hd7, hw7, ho7⟩
        have HD7 := Lib.hid hd7
        have HW7 := Lib.hid hw7
        have HO7 := Lib.hid ho7
        clear hd7 hw7 ho7
        go_wp2_with fail
        go_ret
        refine .inr ⟨HFF.out, rfl, ⟨A6, c6, F7, ⟨_, _, _, _, by rw [HSY.out]; exact HD7.out⟩, fun q hq => ?_, ?_⟩⟩
        · rcases HW7.out q hq with h | h
          · rcases HWW.out q h with h | h
            · exact .inl h
            · exact .inr ⟨h.1, Nat.lt_of_lt_of_le h.2 HO7.out.size⟩
          · exact .inr ⟨Nat.le_trans HO6.out.size h.1, h.2⟩
        · exact HO6.out.trans HO7.out (fun q hq h => (HWW.out q h).elim id (fun h => by omega))
end Go.Proofs.Ytikhhipgamllgaa
