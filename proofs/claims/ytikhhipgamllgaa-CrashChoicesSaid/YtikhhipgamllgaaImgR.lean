/- The reference's Image. Conditions: few sectors, few writes, a number within its kind. -/
import Derived.Test.YtikhhipgamllgaaImg
import Derived.Test.YtikhhipgamllgaaFateR
namespace Go.Proofs.Ytikhhipgamllgaa
open Go.RowKit
/-- the first k writes lie within n sectors -/
def Fits (ws : List Wr) (n k : Nat) : Prop := ∀ (j : Nat) (y : Wr), j < k → ws[j]? = some y → lostB n y = false
theorem Fits.succ {ws : List Wr} {n k : Nat} {x : Wr} (h : Fits ws n k) (hx : ws[k]? = some x) (hp : lostB n x = false) : Fits ws n (k + 1) := fun j y hj hy => by
  rcases Nat.lt_or_ge j k with h1 | h1
  · exact h j y h1 hy
  · obtain rfl : j = k := by omega
    rw [hx] at hy; cases hy; exact hp
theorem Fits.ok {ws : List Wr} {n c : Nat} (h : Fits ws n ws.length) (ha : allowB c (eps ws) = true) : imgOk c n ws = true := by
  unfold imgOk
  have : ws.any (lostB n) = false := by
    rw [List.any_eq_false]
    intro x hx
    obtain ⟨j, hj⟩ := List.getElem?_of_mem hx
    rw [h j x (List.getElem?_eq_some_iff.1 hj).1 hj]; exact Bool.false_ne_true
  rw [ha, this]; rfl
theorem imgOk_lost {ws : List Wr} {n c k : Nat} {x : Wr} (hx : ws[k]? = some x) (hp : lostB n x = true) : imgOk c n ws = false := by
  unfold imgOk
  rw [List.any_eq_true.2 ⟨x, List.mem_of_getElem? hx, hp⟩, Bool.not_true, Bool.and_false]
set_option maxRecDepth 100000 in
set_option maxHeartbeats 2000000 in
theorem rimage_any (c : Nat) (A1 A2 : Option Addr) (c1 c2 : Nat) (l : List Sec) (ws : List Wr) (w : World) (hc : c < 18446744073709551616) (hl : l.length ≤ 1000) (hn : ws.length ≤ 1000)
    (hr1 : Reads w w.heap.size 32 A1 l.length (l.flatMap cellsS)) (hr2 : Reads w w.heap.size 36 A2 ws.length (ws.flatMap cellsW)) :
    Calls Try.prog 33 #[.agg #[.slice A1 l.length c1, .slice A2 ws.length c2], .int .u64 c] w (GotImg w (imgOk c l.length ws) (imgTo c l ws ws.length)) := by
  obtain ⟨n1, hn1⟩ : ∃ n, n = l.length := ⟨_, rfl⟩
  obtain ⟨n2, hn2⟩ : ∃ n, n = ws.length := ⟨_, rfl⟩
  rw [← hn1, ← hn2]
  have HN1 := Lib.hid hn1
  have HN2 := Lib.hid hn2
  rw [← hn1] at hl
  rw [← hn2] at hn
  have HC := Lib.hid hc
  have HR1 := Lib.hid hr1
  have HR2 := Lib.hid hr2
  clear hn1 hn2 hc hr1 hr2
  have HBX := Lib.hid (Blk.new w 43 #[.slice A1 n1 c1, .slice A2 n2 c2])
  obtain ⟨w0, hw0⟩ : ∃ w0, w.alloc (.cells #[.slice A1 n1 c1, .slice A2 n2 c2] 43) = w0 := ⟨_, rfl⟩
  have hs0 : w0.heap.size = w.heap.size + 1 := by rw [← hw0]; simp
  rw [hw0] at HBX
  have HB0 : Hid (Below w.heap.size w w0) := by rw [← hw0]; exact Lib.hid ((Below.refl _ w).alloc (Nat.le_refl _) _)
  have HS0 := Lib.hid hs0
  have H0 := Lib.hid hw0
  clear hw0 hs0
  have HUP : Hid (∀ W, Below w0.heap.size w0 W → Below w.heap.size w W) := Lib.hid (fun W hW => HB0.out.trans (hW.mono (by rw [HS0.out]; omega)))
  have HX : Hid (∀ (W : World) (j : Nat), Below w0.heap.size w0 W → W.cell? ⟨w.heap.size, j, none⟩ = (#[Value.slice A1 n1 c1, .slice A2 n2 c2] : Array Value)[j]?) := Lib.hid (fun W j hb => (hb.cell (p := ⟨w.heap.size, j, none⟩) (by show w.heap.size < w0.heap.size; rw [HS0.out]; omega)).trans (HBX.out.cell j))
  have CA := fun (W : World) (hb : Below w0.heap.size w0 W) => crallow_any c (.slice A1 n1 c1) A2 c2 ws W HC.out (by rw [← HN2.out]; exact hn) ((HR2.out.below (HUP.out W hb)).more (HUP.out W hb).size)
  rw [← HN2.out] at CA
  have HCA := Lib.hid CA
  clear CA
  cases hal : allowB c (eps ws)
  · have HAL := Lib.hid hal
    have HOK : Hid (imgOk c n1 ws = false) := Lib.hid (by unfold imgOk; rw [hal]; rfl)
    clear hal
    go_enter Try.func33, Try.ntmps33
    go_wp2_with fail
    rw [H0.out]
    refine (HCA.out w0 (Below.refl _ _)).mono ?_
    rintro o w1 ⟨rfl, hb1⟩
    rw [HAL.out]
    have HB1 := Lib.hid hb1
    clear hb1
    go_wp2_with fail
    go_ret2
    exact GotImg.no HOK.out (HUP.out w1 HB1.out)
  · have HAL := Lib.hid hal
    have h32 := allow_len hal
    rw [← HN2.out] at h32
    clear hal
    obtain ⟨i66, z66, hi6, hz6, hs6, hby6, hzs6⟩ := row66
    have HI6 := Lib.hid hi6
    have HZ6 := Lib.hid hz6
    have HS6 := Lib.hid hs6
    have HBY6 := Lib.hid hby6
    have HZS6 := Lib.hid hzs6
    clear hi6 hz6 hs6 hby6 hzs6
    obtain ⟨z, hz, hzs⟩ := zero108
    have HZ := Lib.hid hz
    have HZS := Lib.hid hzs
    clear hz hzs
    go_enter Try.func33, Try.ntmps33
    go_wp2_with fail
    rw [H0.out]
    refine (HCA.out w0 (Below.refl _ _)).mono ?_
    rintro o w1 ⟨rfl, hb1⟩
    rw [HAL.out]
    have hs1 : w.heap.size < w1.heap.size := by have := hb1.size; rw [HS0.out] at this; omega
    have hc1 : (w1.alloc (.cells #[] 66)).cell? ⟨w.heap.size, 0, none⟩ = some (.slice A1 n1 c1) := HX.out _ 0 (hb1.alloc hb1.size _)
    have HB1 := Lib.hid hb1
    have HS1 := Lib.hid hs1
    clear hb1
    go_wp2_with (at_builtin; go_must (refine wpList_append_any _ rfl (.tmp 13) (.tmp 15) 40 rfl w1.heap.size 66 i66 (.agg z66) 32 32 Try.underlying40 HI6.out HZ6.out HS6.out HBY6.out HZS6.out (by decide) (.slice (some ⟨w1.heap.size, 0, none⟩) 0 0) 0 [] rfl (World.ownsRow_lit w1 #[] 0 (Nat.le_refl _) (by decide) (by simp)) w.heap.size A1 n1 c1 (l.flatMap cellsS) rfl (by rw [HN1.out]; exact HR1.out.below (HUP.out _ (HB1.out.alloc HB1.out.size _))) (secs_one l) (by unfold maxLen; omega) (by omega) (by simp) ?_; intro va w2 hown2 hgrow2 _))
    rw [Nat.zero_add, List.nil_append] at hown2
    have HB2 : Hid (Below w0.heap.size w0 w2) := Lib.hid ((HB1.out.alloc HB1.out.size _).grown hgrow2 (HB1.out.alloc HB1.out.size _).size (fun g hg => by cases hg; exact HB1.out.size))
    obtain ⟨A3, c3, rfl, hrd⟩ := own_slice hown2
    have HO := Lib.hid (own_base hown2 HB1.out.size)
    clear hown2 hgrow2 hrd hc1 hs1
    go_loopw [7] (fun i wr => ∃ k : Nat, k ≤ n2 ∧ i = .int .i64 k ∧ Hid (wr.ownsRow w0.heap.size 66 32 (.slice A3 n1 c3) n1 ((imgTo c l ws k).flatMap cellsS)) ∧ Hid (Below w0.heap.size w0 wr) ∧ Hid (Fits ws n1 k)) (fun i _ => n2 - (intOf i).toNat)
    case atStart => exact ⟨0, by omega, rfl, HO, HB2, Lib.hid (fun j y hj => absurd hj (by omega))⟩
    case round =>
      obtain ⟨k, hk, rfl, HOW, HBE, HFI⟩ := hrel
      have hbx : wr.cell? ⟨w.heap.size, 1, none⟩ = some (.slice A2 n2 c2) := HX.out wr 1 HBE.out
      by_cases hlt : k < n2
      · obtain ⟨x, hx⟩ : ∃ x, ws[k]? = some x := ⟨_, List.getElem?_eq_getElem (by rw [← HN2.out]; exact hlt)⟩
        obtain ⟨b, o, rfl, hb, hit⟩ := (HR2.out.below (HUP.out wr HBE.out)).item (f := cellsW) cellsW_len (by omega) (k := k) (by rw [← HN2.out]; exact hlt)
        have HIT := Lib.hid (hit k x hx)
        have HBS : Hid (w0.heap.size ≤ wr.heap.size) := Lib.hid HBE.out.size
        cases hlx : lostB n1 x
        · obtain ⟨i, hat, hi⟩ := fits_of hlx
          have HFS := Lib.hid (HFI.out.succ hx hlx)
          have hk32 : k < 32 := by omega
          have HAT : Hid ((cellsW x)[0]? = some (.int .i64 (i : Nat))) := Lib.hid (by rw [cellsW_at, hat])
          have hlen : (imgTo c l ws k).length = n1 := by rw [imgTo_len]; exact HN1.out.symm
          obtain ⟨s, hs⟩ : ∃ s, (imgTo c l ws k)[i]? = some s := ⟨_, List.getElem?_eq_getElem (by rw [hlen]; exact hi)⟩
          have HSI := Lib.hid hs
          have HSS : Hid ((imgTo c l ws k)[x.at_.toNat]? = some s) := Lib.hid (by rw [hat, Int.toNat_natCast]; exact hs)
          have HNX : Hid (imgTo c l ws (k + 1) = imgStep c (imgTo c l ws k) k x) := Lib.hid (imgTo_succ hx)
          obtain ⟨g, rfl, hg1, hg2⟩ := own_at HOW.out (by omega)
          have HTN : Hid (x.at_.toNat = i) := Lib.hid (by rw [hat, Int.toNat_natCast])
          have HLEN := Lib.hid hlen
          have HG1 := Lib.hid hg1
          have HG2 := Lib.hid hg2
          obtain ⟨f, hf⟩ : ∃ f, f = fate c k := ⟨_, rfl⟩
          have HFT := Lib.hid hf
          have hi0 : (0 : Int) ≤ i := by omega
          have hi1 : decide (n1 ≤ i) = false := by simp; omega
          clear hit hx hat hlen hs hg1 hg2 hf hlx
          by_cases hf1 : f = 1
          · subst hf1
            go_wp2_with (first | (with_reducible show wpList _ _ _ (Oper.mk _ (Op.load 108 _) _ _ _ _ :: _) _ _; go_must (refine wpList_load_mid rfl 108 (.tmp 27) rfl b _ rfl (cellsW x) _ HIT.out Try.underlying108 rfl (by rw [cellsW_len]; exact info108) ?_)) | (with_reducible show wpList _ _ _ (Oper.mk _ (Op.alloc 108) _ _ _ _ :: _) _ _; refine wpList_alloc_any rfl 108 rfl z HZ.out ?_) | (with_reducible show wpList _ _ _ (Oper.mk _ (Op.store 108 _ _) _ _ _ _ :: _) _ _; go_must (refine wpList_store_made rfl 108 (.tmp 8) (.tmp 28) rfl z (cellsW x) rfl rfl (by rw [cellsW_len]; exact info108) (by rw [cellsW_len]; exact HZS.out) (cellsW_one x) ?_; intro v1 hv1 hg1 hs1; have hc0 : v1.cell? ⟨wr.heap.size, 0, none⟩ = some (.int .i64 (i : Nat)) := hv1.list HAT.out; have HV1 := Lib.hid hv1; have HO1 := Lib.hid (own_keep HOW.out hg1); have HB1 := Lib.hid (below_grown HBE.out hg1 HBS.out); have HS1 := Lib.hid hs1; clear hv1 hg1 hs1)))
            refine (rfate_any c _ _ HC.out).mono ?_
            rintro o f1 ⟨rfl, hf1⟩
            rw [fateI_at c k hk32, ← HFT.out]
            have hcf : f1.cell? ⟨wr.heap.size, 0, none⟩ = some (.int .i64 (i : Nat)) := (hf1.cell (p := ⟨wr.heap.size, 0, none⟩) (by show wr.heap.size < v1.heap.size; rw [HS1.out]; omega)).trans hc0
            have HLT : Hid (wr.heap.size < v1.heap.size) := Lib.hid (by rw [HS1.out]; omega)
            have HF1 := Lib.hid hf1
            clear hf1 hc0
            go_wp2_with (first | (with_reducible show wpList _ _ _ (Oper.mk _ (Op.load 66 (.tmp 46)) _ _ _ _ :: _) _ _; go_must (refine wpList_load_mid rfl 66 (.tmp 46) rfl wr.heap.size _ rfl (cellsS x.s) _ (rangeAt_below (HV1.out.range 1 _ (w_sec x)) HF1.out HLT.out) Try.underlying66 rfl (by rw [cellsS_len]; exact info66) ?_)) | (with_reducible show wpList _ _ _ (Oper.mk _ (Op.store 66 (.tmp 48) _) _ _ _ _ :: _) _ _; go_must (refine wpList_store_own rfl 66 (.tmp 48) (.tmp 47) rfl (own_below HO1.out HF1.out) (i * 32) (cellsS x.s) rfl rfl (by rw [cellsS_len]; omega) (by rw [cellsS_len]; exact info66) (cellsS_one _) ?_; intro v2 ho2 hg2 hs2; have HO2 := Lib.hid ho2; have HG2 := Lib.hid hg2; have HS2 := Lib.hid hs2; clear ho2 hg2 hs2)))
            refine (rfate_any c _ _ HC.out).mono ?_
            rintro o f2 ⟨rfl, hf2⟩
            rw [fateI_at c k hk32, ← HFT.out]
            have HF2 := Lib.hid hf2
            clear hf2
            go_wp2_with fail
            have hbA : Below w0.heap.size w0 f1 := HB1.out.trans (HF1.out.mono HB1.out.size)
            have hbB : Below w0.heap.size w0 v2 := hbA.grown HG2.out hbA.size (row_le HG1.out)
            refine ⟨⟨k + 1, by omega, by go_num, Lib.hid ?_, Lib.hid (hbB.trans (HF2.out.mono hbB.size)), HFS⟩, by simp [intOf]; omega⟩
            rw [HNX.out, ← store_img (i := i) x.s (by rw [imgStep_one HSS.out HFT.out.symm, HTN.out]) (by rw [HLEN.out]; exact hi)]
            exact own_below HO2.out HF2.out
          · by_cases hf2 : f = 2
            · subst hf2
              go_wp2_with (first | (with_reducible show wpList _ _ _ (Oper.mk _ (Op.load 108 _) _ _ _ _ :: _) _ _; go_must (refine wpList_load_mid rfl 108 (.tmp 27) rfl b _ rfl (cellsW x) _ HIT.out Try.underlying108 rfl (by rw [cellsW_len]; exact info108) ?_)) | (with_reducible show wpList _ _ _ (Oper.mk _ (Op.alloc 108) _ _ _ _ :: _) _ _; refine wpList_alloc_any rfl 108 rfl z HZ.out ?_) | (with_reducible show wpList _ _ _ (Oper.mk _ (Op.store 108 _ _) _ _ _ _ :: _) _ _; go_must (refine wpList_store_made rfl 108 (.tmp 8) (.tmp 28) rfl z (cellsW x) rfl rfl (by rw [cellsW_len]; exact info108) (by rw [cellsW_len]; exact HZS.out) (cellsW_one x) ?_; intro v1 hv1 hg1 hs1; have hc0 : v1.cell? ⟨wr.heap.size, 0, none⟩ = some (.int .i64 (i : Nat)) := hv1.list HAT.out; have HV1 := Lib.hid hv1; have HO1 := Lib.hid (own_keep HOW.out hg1); have HB1 := Lib.hid (below_grown HBE.out hg1 HBS.out); have HS1 := Lib.hid hs1; clear hv1 hg1 hs1)))
              refine (rfate_any c _ _ HC.out).mono ?_
              rintro o f1 ⟨rfl, hf1⟩
              rw [fateI_at c k hk32, ← HFT.out]
              have hcf : f1.cell? ⟨wr.heap.size, 0, none⟩ = some (.int .i64 (i : Nat)) := (hf1.cell (p := ⟨wr.heap.size, 0, none⟩) (by show wr.heap.size < v1.heap.size; rw [HS1.out]; omega)).trans hc0
              have HLT : Hid (wr.heap.size < v1.heap.size) := Lib.hid (by rw [HS1.out]; omega)
              have HF1 := Lib.hid hf1
              clear hf1 hc0
              go_wp2_with fail
              refine (rfate_any c _ _ HC.out).mono ?_
              rintro o f2 ⟨rfl, hf2⟩
              rw [fateI_at c k hk32, ← HFT.out]
              have hcg : f2.cell? ⟨wr.heap.size, 0, none⟩ = some (.int .i64 (i : Nat)) := (hf2.cell (p := ⟨wr.heap.size, 0, none⟩) (by show wr.heap.size < f1.heap.size; have := HF1.out.size; have := HLT.out; omega)).trans hcf
              have HF2 : Hid (Below v1.heap.size v1 f2) := Lib.hid (HF1.out.trans (hf2.mono HF1.out.size))
              clear hf2 hcf
              go_wp2_with fail
              have hi' : (i : Int) < n1 := by omega
              have HL2 : Hid (wr.heap.size < f2.heap.size) := Lib.hid (by have := HF2.out.size; have := HLT.out; omega)
              refine wp_region_quiet_tail (fun W => Below f2.heap.size f2 W) 12 (by kernel_rfl) (by kernel_rfl) ((Below.refl _ f2).drew) ?_
              simp only [List.take_succ_cons, List.take_zero, List.drop_succ_cons, List.drop_zero]
              go_big_quiet_want; go_big_quiet_op; go_big_quiet_on
              go_big_quiet_want; refine quiet_value (.pointer (some ⟨wr.heap.size, 0, none⟩)) (fun W _ => by go_simp) ?_; go_frame; go_big_quiet_on
              go_big_quiet_want; refine quiet_value (.int .i64 (i : Nat)) (fun W hW => by have h := (hW.cell (p := ⟨wr.heap.size, 0, none⟩) HL2.out).trans hcg; go_simp) ?_; go_frame; go_big_quiet_on
              go_big_quiet_want; go_big_quiet_op; go_big_quiet_on
              go_big_quiet_want; refine quiet_value (.pointer (some ⟨wr.heap.size, 0, none⟩)) (fun W _ => by go_simp) ?_; go_frame; go_big_quiet_on
              go_big_quiet_want; refine quiet_value (.int .i64 (i : Nat)) (fun W hW => by have h := (hW.cell (p := ⟨wr.heap.size, 0, none⟩) HL2.out).trans hcg; go_simp) ?_; go_frame; go_big_quiet_on
              go_big_quiet_want; refine quiet_value (.pointer (some ⟨g, i * 32, none⟩)) (fun W _ => by go_simp) ?_; go_frame; go_big_quiet_on
              go_big_quiet_want; refine quiet_load_mid 66 (.tmp 59) rfl g (i * 32) rfl (cellsS s) _ (fun W hW => own_item (own_below (own_below HO1.out HF2.out) hW) HSI.out) Try.underlying66 rfl (by rw [cellsS_len]; exact info66) ?_; go_frame; go_big_quiet_on
              go_big_quiet_want; refine quiet_value (.pointer (some ⟨wr.heap.size, 1, none⟩)) (fun W _ => by go_simp) ?_; go_frame; go_big_quiet_on
              go_big_quiet_want; refine quiet_load_mid 66 (.tmp 61) rfl wr.heap.size 1 rfl (cellsS x.s) _ (fun W hW => rangeAt_below (rangeAt_below (HV1.out.range 1 _ (w_sec x)) HF2.out HLT.out) hW HL2.out) Try.underlying66 rfl (by rw [cellsS_len]; exact info66) ?_; go_frame; go_big_quiet_on
              go_big_quiet_want; refine quiet_call 82 #[.agg (cellsS s).toArray, .agg (cellsS x.s).toArray] (.agg (cellsS (tornS s x.s)).toArray) (fun W _ => by go_simp) (fun W hW => (rtorn_any s x.s W).mono fun e w' h => ⟨h.1, hW.trans (h.2.mono hW.size)⟩) ?_; go_frame; go_big_quiet_on
              go_big_quiet_want; refine quiet_value (.pointer (some ⟨g, i * 32, none⟩)) (fun W _ => by go_simp) ?_; go_frame; go_big_quiet_on
              refine wpQuiet_nil ?_
              intro W hW
              have HWB : Hid (Below v1.heap.size v1 W) := Lib.hid (HF2.out.trans (hW.mono HF2.out.size))
              clear hW hi' hi0
              go_wp2_with (with_reducible show wpList _ _ _ (Oper.mk _ (Op.store 66 (.tmp 64) _) _ _ _ _ :: _) _ _; go_must (refine wpList_store_own rfl 66 (.tmp 64) (.tmp 63) rfl (own_below HO1.out HWB.out) (i * 32) (cellsS (tornS s x.s)) rfl rfl (by rw [cellsS_len]; omega) (by rw [cellsS_len]; exact info66) (cellsS_one _) ?_; intro v2 ho2 hg2 hs2; have HO2 := Lib.hid ho2; have HGG := Lib.hid hg2; clear ho2 hg2 hs2))
              refine ⟨⟨k + 1, by omega, by go_num, Lib.hid ?_, Lib.hid ((HB1.out.trans (HWB.out.mono HB1.out.size)).grown HGG.out (HB1.out.trans (HWB.out.mono HB1.out.size)).size (row_le HG1.out)), HFS⟩, by simp [intOf]; omega⟩
              rw [HNX.out, ← store_img (i := i) (tornS s x.s) (by rw [imgStep_two HSS.out HFT.out.symm, HTN.out]) (by rw [HLEN.out]; exact hi)]
              exact HO2.out
            · have h1 : ((f : Int) == 1) = false := beq_eq_false_iff_ne.2 (by omega)
              have h2 : ((f : Int) == 2) = false := beq_eq_false_iff_ne.2 (by omega)
              have HI : Hid (imgTo c l ws (k + 1) = imgTo c l ws k) := Lib.hid (by rw [HNX.out, imgStep_no (by rw [← HFT.out]; exact hf1) (by rw [← HFT.out]; exact hf2)])
              clear hf1 hf2
              go_wp2_with (first | (with_reducible show wpList _ _ _ (Oper.mk _ (Op.load 108 _) _ _ _ _ :: _) _ _; go_must (refine wpList_load_mid rfl 108 (.tmp 27) rfl b _ rfl (cellsW x) _ HIT.out Try.underlying108 rfl (by rw [cellsW_len]; exact info108) ?_)) | (with_reducible show wpList _ _ _ (Oper.mk _ (Op.alloc 108) _ _ _ _ :: _) _ _; refine wpList_alloc_any rfl 108 rfl z HZ.out ?_) | (with_reducible show wpList _ _ _ (Oper.mk _ (Op.store 108 _ _) _ _ _ _ :: _) _ _; go_must (refine wpList_store_made rfl 108 (.tmp 8) (.tmp 28) rfl z (cellsW x) rfl rfl (by rw [cellsW_len]; exact info108) (by rw [cellsW_len]; exact HZS.out) (cellsW_one x) ?_; intro v1 hv1 hg1 hs1; have hc0 : v1.cell? ⟨wr.heap.size, 0, none⟩ = some (.int .i64 (i : Nat)) := hv1.list HAT.out; have HV1 := Lib.hid hv1; have HO1 := Lib.hid (own_keep HOW.out hg1); have HB1 := Lib.hid (below_grown HBE.out hg1 HBS.out); have HS1 := Lib.hid hs1; clear hv1 hg1 hs1)))
              refine (rfate_any c _ _ HC.out).mono ?_
              rintro o f1 ⟨rfl, hf1⟩
              rw [fateI_at c k hk32, ← HFT.out]
              have hcf : f1.cell? ⟨wr.heap.size, 0, none⟩ = some (.int .i64 (i : Nat)) := (hf1.cell (p := ⟨wr.heap.size, 0, none⟩) (by show wr.heap.size < v1.heap.size; rw [HS1.out]; omega)).trans hc0
              have HLT : Hid (wr.heap.size < v1.heap.size) := Lib.hid (by rw [HS1.out]; omega)
              have HF1 := Lib.hid hf1
              clear hf1 hc0
              go_wp2_with fail
              refine (rfate_any c _ _ HC.out).mono ?_
              rintro o f2 ⟨rfl, hf2⟩
              rw [fateI_at c k hk32, ← HFT.out]
              have HF2 : Hid (Below v1.heap.size v1 f2) := Lib.hid (HF1.out.trans (hf2.mono HF1.out.size))
              clear hf2 hcf
              go_wp2_with fail
              exact ⟨⟨k + 1, by omega, by go_num, Lib.hid (by rw [HI.out]; exact own_below HO1.out HF2.out), Lib.hid (HB1.out.trans (HF2.out.mono HB1.out.size)), HFS⟩, by simp [intOf]; omega⟩
        · have HOK : Hid (imgOk c n1 ws = false) := Lib.hid (imgOk_lost hx hlx)
          have HAT : Hid ((cellsW x)[0]? = some (.int .i64 x.at_)) := Lib.hid (cellsW_at x)
          unfold lostB at hlx
          clear hit hx
          by_cases hneg : x.at_ < 0
          · clear hlx
            go_wp2_with (first | (with_reducible show wpList _ _ _ (Oper.mk _ (Op.load 108 _) _ _ _ _ :: _) _ _; go_must (refine wpList_load_mid rfl 108 (.tmp 27) rfl b _ rfl (cellsW x) _ HIT.out Try.underlying108 rfl (by rw [cellsW_len]; exact info108) ?_)) | (with_reducible show wpList _ _ _ (Oper.mk _ (Op.alloc 108) _ _ _ _ :: _) _ _; refine wpList_alloc_any rfl 108 rfl z HZ.out ?_) | (with_reducible show wpList _ _ _ (Oper.mk _ (Op.store 108 _ _) _ _ _ _ :: _) _ _; go_must (refine wpList_store_made rfl 108 (.tmp 8) (.tmp 28) rfl z (cellsW x) rfl rfl (by rw [cellsW_len]; exact info108) (by rw [cellsW_len]; exact HZS.out) (cellsW_one x) ?_; intro v1 hv1 hg1 hs1; have hc0 : v1.cell? ⟨wr.heap.size, 0, none⟩ = some (.int .i64 x.at_) := hv1.list HAT.out; have HV1 := Lib.hid hv1; have HO1 := Lib.hid (own_keep HOW.out hg1); have HB1 := Lib.hid (below_grown HBE.out hg1 HBS.out); have HS1 := Lib.hid hs1; clear hv1 hg1 hs1)))
            go_ret2
            exact GotImg.no HOK.out (HUP.out v1 HB1.out)
          · have hge : (n1 : Int) ≤ x.at_ := by simpa [hneg] using hlx
            clear hlx
            go_wp2_with (first | (with_reducible show wpList _ _ _ (Oper.mk _ (Op.load 108 _) _ _ _ _ :: _) _ _; go_must (refine wpList_load_mid rfl 108 (.tmp 27) rfl b _ rfl (cellsW x) _ HIT.out Try.underlying108 rfl (by rw [cellsW_len]; exact info108) ?_)) | (with_reducible show wpList _ _ _ (Oper.mk _ (Op.alloc 108) _ _ _ _ :: _) _ _; refine wpList_alloc_any rfl 108 rfl z HZ.out ?_) | (with_reducible show wpList _ _ _ (Oper.mk _ (Op.store 108 _ _) _ _ _ _ :: _) _ _; go_must (refine wpList_store_made rfl 108 (.tmp 8) (.tmp 28) rfl z (cellsW x) rfl rfl (by rw [cellsW_len]; exact info108) (by rw [cellsW_len]; exact HZS.out) (cellsW_one x) ?_; intro v1 hv1 hg1 hs1; have hc0 : v1.cell? ⟨wr.heap.size, 0, none⟩ = some (.int .i64 x.at_) := hv1.list HAT.out; have HV1 := Lib.hid hv1; have HO1 := Lib.hid (own_keep HOW.out hg1); have HB1 := Lib.hid (below_grown HBE.out hg1 HBS.out); have HS1 := Lib.hid hs1; clear hv1 hg1 hs1)))
            go_ret2
            exact GotImg.no HOK.out (HUP.out v1 HB1.out)
      · obtain rfl : k = n2 := by omega
        go_wp2
        go_ret2
        show GotImg _ _ _ (.returned (.tuple #[.slice A3 n1 c3, .bool true])) _
        exact GotImg.yes (Fits.ok (by rw [← HN2.out]; exact HFI.out) HAL.out) (HUP.out wr HBE.out) (by rw [imgTo_len, ← HN1.out]; exact own_base HOW.out (by rw [HS0.out]; omega))
end Go.Proofs.Ytikhhipgamllgaa
