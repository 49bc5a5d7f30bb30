/- crash.Image. Conditions: few sectors, few writes, a number within its kind. -/
import Derived.Test.YtikhhipgamllgaaImgP
namespace Go.Proofs.Ytikhhipgamllgaa
open Go.RowKit
theorem allow_len {c : Nat} {ws : List Wr} (h : allowB c (eps ws) = true) : ws.length ≤ 32 := by
  unfold allowB rightB at h
  simp only [Bool.and_eq_true, decide_eq_true_eq] at h
  rw [← eps_len]; omega
theorem callF78 (v a : Value) (W : World) : (callFunc 78 #[a, v]).run Try.prog W = .ok (.enter 78 #[a, v]) W := by
  go_simp
theorem fits_of {n : Nat} {x : Wr} (h : lostB n x = false) : ∃ i : Nat, x.at_ = i ∧ i < n := by
  unfold lostB at h
  simp only [Bool.or_eq_false_iff, decide_eq_false_iff_not] at h
  exact ⟨x.at_.toNat, by omega, by omega⟩
theorem w_sec (x : Wr) : ∀ j v, (cellsS x.s)[j]? = some v → (cellsW x).toArray[1 + j]? = some v := fun j v h => by
  simpa using cellsW_s x j v h
theorem store_img {c k : Nat} {l : List Sec} {x : Wr} {i : Nat} (t : Sec) (hl : (imgStep c l k x) = l.set i t) (hi : i < l.length) : spl (l.flatMap cellsS) (i * 32) (cellsS t) = (imgStep c l k x).flatMap cellsS := by
  rw [hl, cat_set cellsS 32 cellsS_len l i t hi]
set_option maxRecDepth 100000 in
set_option maxHeartbeats 2000000 in
theorem image_any (c : Nat) (A1 A2 : Option Addr) (c1 c2 : Nat) (l : List Sec) (ws : List Wr) (w : World) (hc : c < 18446744073709551616) (hl : l.length ≤ 1000) (hn : ws.length ≤ 1000)
    (hr1 : Reads w w.heap.size 32 A1 l.length (l.flatMap cellsS)) (hr2 : Reads w w.heap.size 36 A2 ws.length (ws.flatMap cellsW)) :
    Calls Try.prog 32 #[.agg #[.slice A1 l.length c1, .slice A2 ws.length c2], .int .u64 c] w (GotImg w (imgOk c l.length ws) (imgTo c l ws ws.length)) := by
  obtain ⟨n1, hn1⟩ : ∃ n, n = l.length := ⟨_, rfl⟩
  obtain ⟨n2, hn2⟩ : ∃ n, n = ws.length := ⟨_, rfl⟩
  rw [← hn1, ← hn2]
  have HN1 := Lib.hid hn1
  have HN2 := Lib.hid hn2
  rw [← hn1] at hl
  rw [← hn2] at hn
  have HC := Lib.hid hc
  have HR1 := Lib.hid hr1
  have HR2 := Lib.hid hr2
  clear hn1 hn2 hc hr1 hr2
  have HW := Lib.hid (((HR2.out.alloc (Nat.le_refl _) (.cells #[.slice A1 n1 c1, .slice A2 n2 c2] 44)).more (by simp : w.heap.size ≤ (w.alloc (.cells #[.slice A1 n1 c1, .slice A2 n2 c2] 44)).heap.size)))
  have HBX := Lib.hid (Blk.new w 44 #[.slice A1 n1 c1, .slice A2 n2 c2])
  obtain ⟨w0, hw0⟩ : ∃ w0, w.alloc (.cells #[.slice A1 n1 c1, .slice A2 n2 c2] 44) = w0 := ⟨_, rfl⟩
  have hs0 : w0.heap.size = w.heap.size + 1 := by rw [← hw0]; simp
  rw [hw0] at HW HBX
  have HB0 : Hid (Below w.heap.size w w0) := by rw [← hw0]; exact Lib.hid ((Below.refl _ w).alloc (Nat.le_refl _) _)
  have HS0 := Lib.hid hs0
  have H0 := Lib.hid hw0
  clear hw0 hs0
  have CA := fun (W : World) (hb : Below w0.heap.size w0 W) => callow_any c (.slice A1 n1 c1) A2 c2 ws W HC.out (by rw [← HN2.out]; exact hn) ((HW.out.below hb).more hb.size)
  rw [← HN2.out] at CA
  have HCA := Lib.hid CA
  clear CA
  cases hal : allowB c (eps ws)
  · have HAL := Lib.hid hal
    have HOK : Hid (imgOk c n1 ws = false) := Lib.hid (by unfold imgOk; rw [hal]; rfl)
    clear hal
    go_enter Try.func32, Try.ntmps32
    go_wp2_with fail
    rw [H0.out]
    refine (HCA.out w0 (Below.refl _ _)).mono ?_
    rintro o w1 ⟨rfl, hb1⟩
    rw [HAL.out]
    have HB1 := Lib.hid hb1
    clear hb1
    go_wp2_with fail
    go_ret2
    exact GotImg.no HOK.out (HB0.out.trans (HB1.out.mono (by rw [HS0.out]; omega)))
  · have HAL := Lib.hid hal
    have h32 := allow_len hal
    rw [← HN2.out] at h32
    clear hal
    have HL : Hid (∀ W, Below w0.heap.size w0 W → AnswersW W 78 (.pointer (some ⟨w.heap.size, 0, none⟩)) (lostB n1)) := Lib.hid (fun W hW x W' hW' => by
      have hb := hW.trans (hW'.mono hW.size)
      exact lost_any x w.heap.size A1 n1 c1 W' (by have := hb.size; rw [HS0.out] at this; omega) ((hb.cell (p := ⟨w.heap.size, 0, none⟩) (by show w.heap.size < w0.heap.size; rw [HS0.out]; omega)).trans (HBX.out.cell 0)))
    have CF := fun (W : World) (hb : Below w0.heap.size w0 W) => contains_func A2 c2 ws 78 (.pointer (some ⟨w.heap.size, 0, none⟩)) (lostB n1) W (by rw [← HN2.out]; exact hn) ((HW.out.below hb).more hb.size) (HL.out W hb) (fun a W => callF78 _ a W)
    rw [← HN2.out] at CF
    have HCF := Lib.hid CF
    clear CF HL
    have HX : Hid (∀ (W : World) (j : Nat), Below w0.heap.size w0 W → W.cell? ⟨w.heap.size, j, none⟩ = (#[Value.slice A1 n1 c1, .slice A2 n2 c2] : Array Value)[j]?) := Lib.hid (fun W j hb => (hb.cell (p := ⟨w.heap.size, j, none⟩) (by show w.heap.size < w0.heap.size; rw [HS0.out]; omega)).trans (HBX.out.cell j))
    cases hlo : ws.any (lostB n1)
    · have HOK : Hid (imgOk c n1 ws = true) := Lib.hid (by unfold imgOk; rw [HAL.out, hlo]; rfl)
      have HF : Hid (∀ x, x ∈ ws → lostB n1 x = false) := Lib.hid (fun x hx => by
        have := List.any_eq_false.1 hlo x hx
        simpa using this)
      have HLO := Lib.hid hlo
      clear hlo
      have CL := fun (W : World) (hb : Below w.heap.size w W) => clone_secs A1 c1 l W (by rw [← HN1.out]; exact hl) ((HR1.out.below hb).more hb.size)
      rw [← HN1.out] at CL
      have HCL := Lib.hid CL
      clear CL
      go_enter Try.func32, Try.ntmps32
      go_wp2_with fail
      rw [H0.out]
      refine (HCA.out w0 (Below.refl _ _)).mono ?_
      rintro o w1 ⟨rfl, hb1⟩
      rw [HAL.out]
      have hc1 : w1.cell? ⟨w.heap.size, 1, none⟩ = some (.slice A2 n2 c2) := HX.out w1 1 hb1
      have HB1 := Lib.hid hb1
      clear hb1
      go_wp2_with fail
      refine (HCF.out w1 HB1.out).mono ?_
      rintro o w2 ⟨rfl, hb2⟩
      rw [HLO.out]
      have HB2 := Lib.hid (HB1.out.trans (hb2.mono HB1.out.size))
      have hc2 : w2.cell? ⟨w.heap.size, 0, none⟩ = some (.slice A1 n1 c1) := HX.out w2 0 HB2.out
      clear hb2 hc1
      go_wp2_with fail
      refine (HCL.out w2 (HB0.out.trans (HB2.out.mono (by rw [HS0.out]; omega)))).mono ?_
      rintro o w3 ⟨v, rfl, hown, hb3⟩
      have HB3 := Lib.hid (HB2.out.trans (hb3.mono HB2.out.size))
      have hc3 : w3.cell? ⟨w.heap.size, 1, none⟩ = some (.slice A2 n2 c2) := HX.out w3 1 HB3.out
      obtain ⟨A3, c3, rfl, _⟩ := own_slice hown
      have HO := Lib.hid (own_base hown (show w.heap.size ≤ w2.heap.size by have := HB2.out.size; rw [HS0.out] at this; omega))
      have HBW := Lib.hid (HB0.out.trans (HB3.out.mono (by rw [HS0.out]; omega)))
      clear hb3 hc2 hown
      obtain ⟨z, hz, hzs⟩ := zero108
      have HZ := Lib.hid hz
      have HZS := Lib.hid hzs
      clear hz hzs
      go_wp2
      clear hc3
      go_loopw [27] (fun i wr => ∃ k : Nat, k ≤ n2 ∧ i = .int .i64 k ∧ Hid (wr.ownsRow w.heap.size 66 32 (.slice A3 n1 c3) n1 ((imgTo c l ws k).flatMap cellsS)) ∧ Hid (Below w.heap.size w wr)) (fun i _ => n2 - (intOf i).toNat)
      case atStart => exact ⟨0, by omega, rfl, HO, HBW⟩
      case round =>
        obtain ⟨k, hk, rfl, HOW, HBE⟩ := hrel
        by_cases hlt : k < n2
        · obtain ⟨x, hx⟩ : ∃ x, ws[k]? = some x := ⟨_, List.getElem?_eq_getElem (by rw [← HN2.out]; exact hlt)⟩
          obtain ⟨b, o, rfl, hb, hit⟩ := (HR2.out.below HBE.out).item (f := cellsW) cellsW_len (by omega) (k := k) (by rw [← HN2.out]; exact hlt)
          have HIT := Lib.hid (hit k x hx)
          obtain ⟨i, hat, hi⟩ := fits_of (HF.out x (List.mem_of_getElem? hx))
          have hk32 : k < 32 := by omega
          have HAT : Hid ((cellsW x)[0]? = some (.int .i64 (i : Nat))) := Lib.hid (by rw [cellsW_at, hat])
          have hlen : (imgTo c l ws k).length = n1 := by rw [imgTo_len]; exact HN1.out.symm
          obtain ⟨s, hs⟩ : ∃ s, (imgTo c l ws k)[i]? = some s := ⟨_, List.getElem?_eq_getElem (by rw [hlen]; exact hi)⟩
          have HSI := Lib.hid hs
          have HSS : Hid ((imgTo c l ws k)[x.at_.toNat]? = some s) := Lib.hid (by rw [hat, Int.toNat_natCast]; exact hs)
          have HNX : Hid (imgTo c l ws (k + 1) = imgStep c (imgTo c l ws k) k x) := Lib.hid (imgTo_succ hx)
          obtain ⟨g, rfl, hg1, hg2⟩ := own_at HOW.out (by omega)
          have HTN : Hid (x.at_.toNat = i) := Lib.hid (by rw [hat, Int.toNat_natCast])
          have HLEN := Lib.hid hlen
          have HG1 := Lib.hid hg1
          have HG2 := Lib.hid hg2
          obtain ⟨f, hf⟩ : ∃ f, f = fate c k := ⟨_, rfl⟩
          have hf4 : f < 4 := by rw [hf]; exact fate_lt c k
          have HFT := Lib.hid hf
          clear hit hx hat hlen hs hg1 hg2 hf
          by_cases hf1 : f = 1
          · subst hf1
            go_wp2_with (first | (with_reducible show wpList _ _ _ (Oper.mk _ (Op.load 108 _) _ _ _ _ :: _) _ _; go_must (refine wpList_load_mid rfl 108 (.tmp 30) rfl b _ rfl (cellsW x) _ HIT.out Try.underlying108 rfl (by rw [cellsW_len]; exact info108) ?_)) | (with_reducible show wpList _ _ _ (Oper.mk _ (Op.alloc 108) _ _ _ _ :: _) _ _; refine wpList_alloc_any rfl 108 rfl z HZ.out ?_) | (with_reducible show wpList _ _ _ (Oper.mk _ (Op.store 108 _ _) _ _ _ _ :: _) _ _; go_must (refine wpList_store_made rfl 108 (.tmp 9) (.tmp 31) rfl z (cellsW x) rfl rfl (by rw [cellsW_len]; exact info108) (by rw [cellsW_len]; exact HZS.out) (cellsW_one x) ?_; intro v1 hv1 hg1 hs1; have hc0 : v1.cell? ⟨wr.heap.size, 0, none⟩ = some (.int .i64 (i : Nat)) := hv1.list HAT.out; have HV1 := Lib.hid hv1; have HO1 := Lib.hid (own_keep HOW.out hg1); have HB1 := Lib.hid (below_grown HBE.out hg1 HBE.out.size); have HS1 := Lib.hid hs1; clear hv1 hg1 hs1)) | (go_at_call 12; refine (fate_any c _ _ HC.out).mono ?_; rintro o w' ⟨rfl, rfl⟩; rw [fateI_at c k hk32, ← HFT.out]) | (with_reducible show wpList _ _ _ (Oper.mk _ (Op.load 66 (.tmp 40)) _ _ _ _ :: _) _ _; go_must (refine wpList_load_mid rfl 66 (.tmp 40) rfl wr.heap.size _ rfl (cellsS x.s) _ (HV1.out.range 1 _ (w_sec x)) Try.underlying66 rfl (by rw [cellsS_len]; exact info66) ?_)) | (with_reducible show wpList _ _ _ (Oper.mk _ (Op.store 66 (.tmp 42) _) _ _ _ _ :: _) _ _; go_must (refine wpList_store_own rfl 66 (.tmp 42) (.tmp 41) rfl HO1.out (i * 32) (cellsS x.s) rfl rfl (by rw [cellsS_len]; omega) (by rw [cellsS_len]; exact info66) (cellsS_one _) ?_; intro v2 ho2 hg2 hs2; have HO2 := Lib.hid ho2; have HG2 := Lib.hid hg2; clear ho2 hg2 hs2)))
            refine ⟨⟨k + 1, by omega, by go_num, Lib.hid ?_, Lib.hid (HB1.out.grown HG2.out HB1.out.size (row_le HG1.out))⟩, by simp [intOf]; omega⟩
            rw [HNX.out, ← store_img (i := i) x.s (by rw [imgStep_one HSS.out HFT.out.symm, HTN.out]) (by rw [HLEN.out]; exact hi)]
            exact HO2.out
          · by_cases hf2 : f = 2
            · subst hf2
              go_wp2_with (first | (with_reducible show wpList _ _ _ (Oper.mk _ (Op.load 108 _) _ _ _ _ :: _) _ _; go_must (refine wpList_load_mid rfl 108 (.tmp 30) rfl b _ rfl (cellsW x) _ HIT.out Try.underlying108 rfl (by rw [cellsW_len]; exact info108) ?_)) | (with_reducible show wpList _ _ _ (Oper.mk _ (Op.alloc 108) _ _ _ _ :: _) _ _; refine wpList_alloc_any rfl 108 rfl z HZ.out ?_) | (with_reducible show wpList _ _ _ (Oper.mk _ (Op.store 108 _ _) _ _ _ _ :: _) _ _; go_must (refine wpList_store_made rfl 108 (.tmp 9) (.tmp 31) rfl z (cellsW x) rfl rfl (by rw [cellsW_len]; exact info108) (by rw [cellsW_len]; exact HZS.out) (cellsW_one x) ?_; intro v1 hv1 hg1 hs1; have hc0 : v1.cell? ⟨wr.heap.size, 0, none⟩ = some (.int .i64 (i : Nat)) := hv1.list HAT.out; have HV1 := Lib.hid hv1; have HO1 := Lib.hid (own_keep HOW.out hg1); have HB1 := Lib.hid (below_grown HBE.out hg1 HBE.out.size); have HS1 := Lib.hid hs1; clear hv1 hg1 hs1)) | (go_at_call 12; refine (fate_any c _ _ HC.out).mono ?_; rintro o w' ⟨rfl, rfl⟩; rw [fateI_at c k hk32, ← HFT.out]))
              have hi' : (i : Int) < n1 := by omega
              have hi0 : (0 : Int) ≤ i := by omega
              have hltS : wr.heap.size < v1.heap.size := by rw [HS1.out]; omega
              have HGL : Hid (g < v1.heap.size) := Lib.hid (by rw [HS1.out]; have := HG2.out; omega)
              have HLT := Lib.hid hltS
              clear hltS
              refine wp_region_quiet_tail (fun W => Below v1.heap.size v1 W) 12 (by kernel_rfl) (by kernel_rfl) ((Below.refl _ v1).drew) ?_
              simp only [List.take_succ_cons, List.take_zero, List.drop_succ_cons, List.drop_zero]
              go_big_quiet_want; go_big_quiet_op; go_big_quiet_on
              go_big_quiet_want; refine quiet_value (.pointer (some ⟨wr.heap.size, 0, none⟩)) (fun W _ => by go_simp) ?_; go_frame; go_big_quiet_on
              go_big_quiet_want; refine quiet_value (.int .i64 (i : Nat)) (fun W hW => by have h := (hW.cell (p := ⟨wr.heap.size, 0, none⟩) HLT.out).trans hc0; go_simp) ?_; go_frame; go_big_quiet_on
              go_big_quiet_want; go_big_quiet_op; go_big_quiet_on
              go_big_quiet_want; refine quiet_value (.pointer (some ⟨wr.heap.size, 0, none⟩)) (fun W _ => by go_simp) ?_; go_frame; go_big_quiet_on
              go_big_quiet_want; refine quiet_value (.int .i64 (i : Nat)) (fun W hW => by have h := (hW.cell (p := ⟨wr.heap.size, 0, none⟩) HLT.out).trans hc0; go_simp) ?_; go_frame; go_big_quiet_on
              go_big_quiet_want; refine quiet_value (.pointer (some ⟨g, i * 32, none⟩)) (fun W _ => by go_simp) ?_; go_frame; go_big_quiet_on
              go_big_quiet_want; refine quiet_load_mid 66 (.tmp 51) rfl g (i * 32) rfl (cellsS s) _ (fun W hW => own_item (own_below HO1.out hW) HSI.out) Try.underlying66 rfl (by rw [cellsS_len]; exact info66) ?_; go_frame; go_big_quiet_on
              go_big_quiet_want; refine quiet_value (.pointer (some ⟨wr.heap.size, 1, none⟩)) (fun W _ => by go_simp) ?_; go_frame; go_big_quiet_on
              go_big_quiet_want; refine quiet_load_mid 66 (.tmp 53) rfl wr.heap.size 1 rfl (cellsS x.s) _ (fun W hW => rangeAt_below (HV1.out.range 1 _ (w_sec x)) hW HLT.out) Try.underlying66 rfl (by rw [cellsS_len]; exact info66) ?_; go_frame; go_big_quiet_on
              go_big_quiet_want; refine quiet_call 81 #[.agg (cellsS s).toArray, .agg (cellsS x.s).toArray] (.agg (cellsS (tornS s x.s)).toArray) (fun W _ => by go_simp) (fun W hW => (torn_any s x.s W).mono fun e w' h => ⟨h.1, hW.trans (h.2.mono hW.size)⟩) ?_; go_frame; go_big_quiet_on
              go_big_quiet_want; refine quiet_value (.pointer (some ⟨g, i * 32, none⟩)) (fun W _ => by go_simp) ?_; go_frame; go_big_quiet_on
              refine wpQuiet_nil ?_
              intro W hW
              have HWB := Lib.hid hW
              clear hW hi' hi0
              go_wp2_with (with_reducible show wpList _ _ _ (Oper.mk _ (Op.store 66 (.tmp 56) _) _ _ _ _ :: _) _ _; go_must (refine wpList_store_own rfl 66 (.tmp 56) (.tmp 55) rfl (own_below HO1.out HWB.out) (i * 32) (cellsS (tornS s x.s)) rfl rfl (by rw [cellsS_len]; omega) (by rw [cellsS_len]; exact info66) (cellsS_one _) ?_; intro v2 ho2 hg2 hs2; have HO2 := Lib.hid ho2; have HGG := Lib.hid hg2; clear ho2 hg2 hs2))
              refine ⟨⟨k + 1, by omega, by go_num, Lib.hid ?_, Lib.hid ((HB1.out.trans (HWB.out.mono HB1.out.size)).grown HGG.out (HB1.out.trans (HWB.out.mono HB1.out.size)).size (row_le HG1.out))⟩, by simp [intOf]; omega⟩
              rw [HNX.out, ← store_img (i := i) (tornS s x.s) (by rw [imgStep_two HSS.out HFT.out.symm, HTN.out]) (by rw [HLEN.out]; exact hi)]
              exact HO2.out
            · have h1 : ((f : Int) == 1) = false := beq_eq_false_iff_ne.2 (by omega)
              have h2 : ((f : Int) == 2) = false := beq_eq_false_iff_ne.2 (by omega)
              have HI : Hid (imgTo c l ws (k + 1) = imgTo c l ws k) := Lib.hid (by rw [HNX.out, imgStep_no (by rw [← HFT.out]; exact hf1) (by rw [← HFT.out]; exact hf2)])
              clear hf1 hf2
              go_wp2_with (first | (with_reducible show wpList _ _ _ (Oper.mk _ (Op.load 108 _) _ _ _ _ :: _) _ _; go_must (refine wpList_load_mid rfl 108 (.tmp 30) rfl b _ rfl (cellsW x) _ HIT.out Try.underlying108 rfl (by rw [cellsW_len]; exact info108) ?_)) | (with_reducible show wpList _ _ _ (Oper.mk _ (Op.alloc 108) _ _ _ _ :: _) _ _; refine wpList_alloc_any rfl 108 rfl z HZ.out ?_) | (with_reducible show wpList _ _ _ (Oper.mk _ (Op.store 108 _ _) _ _ _ _ :: _) _ _; go_must (refine wpList_store_made rfl 108 (.tmp 9) (.tmp 31) rfl z (cellsW x) rfl rfl (by rw [cellsW_len]; exact info108) (by rw [cellsW_len]; exact HZS.out) (cellsW_one x) ?_; intro v1 hv1 hg1 hs1; have hc0 : v1.cell? ⟨wr.heap.size, 0, none⟩ = some (.int .i64 (i : Nat)) := hv1.list HAT.out; have HV1 := Lib.hid hv1; have HO1 := Lib.hid (own_keep HOW.out hg1); have HB1 := Lib.hid (below_grown HBE.out hg1 HBE.out.size); have HS1 := Lib.hid hs1; clear hv1 hg1 hs1)) | (go_at_call 12; refine (fate_any c _ _ HC.out).mono ?_; rintro o w' ⟨rfl, rfl⟩; rw [fateI_at c k hk32, ← HFT.out]))
              exact ⟨⟨k + 1, by omega, by go_num, Lib.hid (by rw [HI.out]; exact HO1.out), HB1⟩, by simp [intOf]; omega⟩
        · obtain rfl : k = n2 := by omega
          go_wp2
          go_ret2
          show GotImg _ _ _ (.returned (.tuple #[.slice A3 n1 c3, .bool true])) _
          exact GotImg.yes HOK.out HBE.out (by rw [imgTo_len, ← HN1.out]; exact HOW.out)
    · have HLO := Lib.hid hlo
      have HOK : Hid (imgOk c n1 ws = false) := Lib.hid (by unfold imgOk; rw [hlo, Bool.not_true, Bool.and_false])
      clear hlo
      go_enter Try.func32, Try.ntmps32
      go_wp2_with fail
      rw [H0.out]
      refine (HCA.out w0 (Below.refl _ _)).mono ?_
      rintro o w1 ⟨rfl, hb1⟩
      rw [HAL.out]
      have hc1 : w1.cell? ⟨w.heap.size, 1, none⟩ = some (.slice A2 n2 c2) := (hb1.cell (p := ⟨w.heap.size, 1, none⟩) (by show w.heap.size < w0.heap.size; rw [HS0.out]; omega)).trans (HBX.out.cell 1)
      have HB1 := Lib.hid hb1
      clear hb1
      go_wp2_with fail
      refine (HCF.out w1 HB1.out).mono ?_
      rintro o w2 ⟨rfl, hb2⟩
      rw [HLO.out]
      have HB2 := Lib.hid hb2
      clear hb2
      go_wp2_with fail
      go_ret2
      exact GotImg.no HOK.out ((HB0.out.trans (HB1.out.mono (by rw [HS0.out]; omega))).trans (HB2.out.mono (by have := HB1.out.size; rw [HS0.out] at this; omega)))
end Go.Proofs.Ytikhhipgamllgaa
