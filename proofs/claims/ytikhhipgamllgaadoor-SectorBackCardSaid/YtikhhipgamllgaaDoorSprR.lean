/- The reference's Spread. Conditions: few bytes. -/
import Derived.Test.YtikhhipgamllgaaDoorSpr
namespace Go.Proofs.YtikhhipgamllgaaDoor
open Go.RowKit
theorem cellsS_zero : cellsS zeroS = List.replicate 32 (.int .u8 0) := rfl
theorem spl_at {a : List Value} {k m : Nat} {v z : Value} (h : a.length = k) : spl (a ++ List.replicate (m + 1) z) k [v] = a ++ ([v] ++ List.replicate m z) := by
  subst h
  unfold spl
  simp [List.drop_append]
def padF (bs : List Int) (k : Nat) : List Int := bs.take k ++ List.replicate (32 * chN k - k) 0
theorem ub_rep (n : Nat) : ub (List.replicate n 0) = List.replicate n (.int .u8 0) := by simp [ub]
theorem padF_len {bs : List Int} {k : Nat} (h : k ≤ bs.length) : (padF bs k).length = chN k * 32 := by
  unfold padF chN
  rw [List.length_append, List.length_take, List.length_replicate]; omega
theorem pad_next {bs : List Int} {k m : Nat} {x : Int} (h : bs[k]? = some x) (hm : 32 * chN (k + 1) - (k + 1) = m) :
    spl (ub (bs.take k) ++ List.replicate (m + 1) (.int .u8 0)) k [.int .u8 x] = ub (padF bs (k + 1)) := by
  obtain ⟨hk, rfl⟩ := List.getElem?_eq_some_iff.1 h
  rw [spl_at (by rw [ub_len, List.length_take]; omega)]
  unfold padF
  rw [hm, ub_app, ub_rep, List.take_succ_eq_append_getElem hk, ub_app, List.append_assoc]; rfl
theorem pad_stepA {bs : List Int} {k : Nat} {x : Int} (h : bs[k]? = some x) (h0 : k % 32 = 0) : spl (ub (padF bs k) ++ cellsS zeroS) (k / 32 * 32 + k % 32) [.int .u8 x] = ub (padF bs (k + 1)) ∧ chN k + 1 = chN (k + 1) := by
  refine ⟨?_, by unfold chN; omega⟩
  have e : 32 * chN k - k = 0 := by unfold chN; omega
  rw [← pad_next h (m := 31) (by unfold chN; omega), show k / 32 * 32 + k % 32 = k by omega]
  unfold padF
  rw [e]
  rw [cellsS_zero, List.replicate_zero, List.append_nil]
theorem pad_stepB {bs : List Int} {k : Nat} {x : Int} (h : bs[k]? = some x) (h0 : k % 32 ≠ 0) : spl (ub (padF bs k)) (k / 32 * 32 + k % 32) [.int .u8 x] = ub (padF bs (k + 1)) ∧ chN k = chN (k + 1) := by
  refine ⟨?_, by unfold chN; omega⟩
  rw [← pad_next h rfl, show k / 32 * 32 + k % 32 = k by omega]
  unfold padF
  rw [ub_app, ub_rep, show 32 * chN k - k = 32 * chN (k + 1) - (k + 1) + 1 by unfold chN; omega]
theorem pad_spr (bs : List Int) : ub (padF bs bs.length) = (spr bs).flatMap cellsS := by
  have hl : ((spr bs).flatMap cellsS).length = chN bs.length * 32 := by rw [cat_len cellsS 32 cellsS_len, spr_len]
  apply List.ext_getElem?
  intro i
  by_cases hi : i < chN bs.length * 32
  · have h1 : (spr bs)[i / 32]? = some (chS bs (i / 32)) := by
      unfold spr; rw [List.getElem?_map, List.getElem?_range (by omega)]; rfl
    have h2 := cat_get cellsS 32 cellsS_len (spr bs) (i / 32) (i % 32) _ h1 (by omega)
    rw [show i / 32 * 32 + i % 32 = i by omega] at h2
    rw [h2]
    unfold chS ofS
    rw [dif_pos (by rw [chB_len]; omega), putS_spl, spl_get (by rw [ub_len, cellsS_len, chB_len]; omega), ub_len, chB_len]
    unfold padF
    rw [List.take_length, ub_app, ub_rep]
    by_cases h3 : i < bs.length
    · rw [List.getElem?_append_left (by rw [ub_len]; exact h3), if_pos ⟨by omega, by omega⟩]
      unfold chB
      rw [Nat.sub_zero, ub_take, ub_drop, List.getElem?_take, if_pos (by omega), List.getElem?_drop, show 32 * (i / 32) + i % 32 = i by omega]
    · rw [List.getElem?_append_right (by rw [ub_len]; omega), if_neg (by omega), ub_len]
      rw [cellsS_zero, List.getElem?_replicate, List.getElem?_replicate, if_pos (by omega), if_pos (by omega)]
  · rw [List.getElem?_eq_none (by rw [ub_len, padF_len (Nat.le_refl _)]; omega), List.getElem?_eq_none (by omega)]
set_option maxRecDepth 100000 in
set_option maxHeartbeats 2000000 in
theorem rspread_any (A : Option Addr) (c : Nat) (bs : List Int) (w : World) (hn : bs.length ≤ 1000) (hr : Reads w w.heap.size 1 A bs.length (ub bs)) :
    Calls Tryd.prog 10 #[.slice A bs.length c] w (GotRow w 34 32 (spr bs).length ((spr bs).flatMap cellsS)) := by
  obtain ⟨n, hnn⟩ : ∃ n, n = bs.length := ⟨_, rfl⟩
  have HR := Lib.hid hr
  have HN := Lib.hid hnn
  rw [← hnn] at hn ⊢
  clear hr hnn
  obtain ⟨i34, hi, hz0, hz1, hz2⟩ := info34z
  have HI := Lib.hid hi
  have HZ0 := Lib.hid hz0
  have HZ1 := Lib.hid hz1
  have HZ2 := Lib.hid hz2
  clear hi hz0 hz1 hz2
  go_enter Tryd.func10, Tryd.ntmps10
  go_wp2
  go_loopw [3, 4] (fun v i wr => ∃ k : Nat, k ≤ n ∧ i = .int .i64 k ∧ wr.ownsRow w.heap.size 34 32 v (chN k) (ub (padF bs k)) ∧ Below w.heap.size w wr) (fun _ i _ => n - (intOf i).toNat)
  case atStart => exact ⟨0, by omega, rfl, World.ownsRow_nil _ _ _ _, Below.refl _ _⟩
  case round =>
    obtain ⟨k, hk, rfl, hown, hbel⟩ := hrel
    by_cases hlt : k < n
    · have hl : k < bs.length := by rw [← HN.out]; exact hlt
      obtain ⟨x, hx⟩ : ∃ x, bs[k]? = some x := ⟨_, List.getElem?_eq_getElem hl⟩
      have hrb : Reads wr w.heap.size 1 A n (ub bs) := by have := HR.out.below hbel; rw [← HN.out] at this; exact this
      obtain ⟨ad, u, rfl, hb, hu, hc⟩ := hrb.at_ hlt
      have hu' : u = .int .u8 x := by
        rw [ub_get, hx] at hu; injection hu with hu; exact hu.symm
      subst hu'
      have HO := Lib.hid hown
      have HB := Lib.hid hbel
      have HC := Lib.hid hc
      have hch : chN k ≤ 1000 := by unfold chN; omega
      by_cases h0 : k % 32 = 0
      · obtain ⟨e1, e2⟩ := pad_stepA hx h0
        have e3 : k / 32 = chN k := by unfold chN; omega
        have hm0 : ((k : Int) % 32 == 0) = true := by simp; omega
        obtain ⟨q, hq⟩ : ∃ q, q = chN k := ⟨_, rfl⟩
        rw [← hq] at HO e2 e3 hch
        have HE1 := Lib.hid e1
        have HE2 := Lib.hid e2
        have HE3 := Lib.hid e3
        clear hrb hown hbel hc e1 e2 e3 hu hx hl h0 hq
        go_wp2_with (first | (with_reducible show wpList _ _ _ (Oper.mk _ (Op.build 34 _) _ _ _ _ :: _) _ _; go_must (refine wpList_build_nil rfl 34 rfl _ built34 ?_)) | (with_reducible show wpList _ _ _ (Oper.mk _ (Op.buildSlice _ _ _) _ _ _ _ :: _) _ _; go_must (refine wpList_bld1 (X := .agg (cellsS zeroS).toArray) rfl rfl rfl (bldS zeroS wr) ?_)) | (at_builtin; refine wpList_append_own _ rfl _ _ 23 rfl w.heap.size 34 i34 (.agg (cellsS zeroS).toArray) 32 32 Tryd.underlying23 HI.out HZ0.out HZ1.out HZ2.out rfl (by decide) u3 q _ rfl (HO.out.alloc _) ⟨wr.heap.size, 0, none⟩ 1 1 (cellsS zeroS) rfl rfl (fun j u hu => by rw [Addr.add_mid, Nat.zero_add]; exact (Blk.new wr 34 _).list hu) (cellsS_one _) (by unfold maxLen; omega) (by omega) (by have := HB.out.size; simp; omega) ?_; intro v2 w2 hown2 hgrow2 _))
        have hq3 := HE3.out
        obtain ⟨g, cap, rfl⟩ := ownsRow_succ hown2
        have hth := (own_stored hown2 (k / 32 * 32 + k % 32) [.int .u8 x] (by simp; omega)).2 0 (by simp)
        obtain ⟨u, hu⟩ := Option.isSome_iff_exists.1 hth.1
        rw [Nat.add_zero] at hu
        have hfz := hth.2
        rw [Nat.add_zero] at hfz
        have HG : Hid (w.heap.size ≤ g) := Lib.hid (hown2.lt g rfl).1
        have HF : Hid (k / 32 * 32 + k % 32 + ([.int .u8 x] : List Value).length ≤ (q + 1) * 32) := Lib.hid (by simp; omega)
        have HO2 := Lib.hid hown2
        have HB2 : Hid (Below w.heap.size w w2) := Lib.hid (((HB.out).alloc HB.out.size _).grown hgrow2 (by have := HB.out.size; simp; omega) (fun g hg => (HO.out.lt g hg).1))
        have hcb : w2.cell? (ad.add k) = some (.int .u8 x) := by
          have h1 : (wr.alloc (.cells (cellsS zeroS).toArray 34)).cell? (ad.add k) = some (.int .u8 x) := (World.cell?_alloc_lt wr _ _ (by rw [block_of_add]; have := HB.out.size; omega)).trans HC.out
          exact (World.cell?_of_block (hgrow2.block _ (by rw [block_of_add]; have := HB.out.size; simp; omega) (fun e => by have := (HO.out.lt _ e.symm).1; rw [block_of_add] at this; omega))).trans h1
        have hi1 : k / 32 < q + 1 := by omega
        clear hth hown2 hgrow2 hq3
        refine wp_region_quiet_tail (fun W => ∃ n, W = w2.drewN n) 11 (by kernel_rfl) (by kernel_rfl) ⟨1, rfl⟩ ?_
        simp only [List.take_succ_cons, List.take_zero, List.drop_succ_cons, List.drop_zero]
        repeat (go_big_quiet_step (fail))
        refine wpQuiet_nil ?_
        rintro w' ⟨nd, rfl⟩
        go_wp2
        refine ⟨⟨k + 1, by omega, by go_num, ?_, ?_⟩, by simp [intOf]; omega⟩
        · have h5 := (own_stored (w := w2.drewN nd) HO2.out (k / 32 * 32 + k % 32) [.int .u8 x] HF.out).1
          rw [HE1.out] at h5
          rw [← HE2.out]
          exact h5
        · exact (below_drewN (n := nd) HB2.out).setCell (p := ⟨g, k / 32 * 32 + k % 32, none⟩) HG.out _
      · obtain ⟨e1, e2⟩ := pad_stepB hx h0
        have e3 : k / 32 < chN k := by unfold chN; omega
        have hm0 : ((k : Int) % 32 == 0) = false := by simp; omega
        obtain ⟨q, hq⟩ : ∃ q, q = chN k - 1 := ⟨_, rfl⟩
        have hq1 : chN k = q + 1 := by omega
        rw [hq1] at hown e2 e3 hch
        have HE1 := Lib.hid e1
        have HE2 := Lib.hid e2
        have hi1 := e3
        have hcb := HC.out
        obtain ⟨g, cap, rfl⟩ := ownsRow_succ hown
        have hth := (own_stored hown (k / 32 * 32 + k % 32) [.int .u8 x] (by simp; omega)).2 0 (by simp)
        obtain ⟨u, hu⟩ := Option.isSome_iff_exists.1 hth.1
        rw [Nat.add_zero] at hu
        have hfz := hth.2
        rw [Nat.add_zero] at hfz
        have HG : Hid (w.heap.size ≤ g) := Lib.hid (hown.lt g rfl).1
        have HF : Hid (k / 32 * 32 + k % 32 + ([.int .u8 x] : List Value).length ≤ (q + 1) * 32) := Lib.hid (by simp; omega)
        have HO2 := Lib.hid hown
        have HB2 := HB
        clear HO hrb hown hbel hc e1 e2 e3 hx hl h0 hq hq1 hth
        go_wp2
        refine wp_region_quiet_tail (fun W => ∃ n, W = wr.drewN n) 11 (by kernel_rfl) (by kernel_rfl) ⟨1, rfl⟩ ?_
        simp only [List.take_succ_cons, List.take_zero, List.drop_succ_cons, List.drop_zero]
        repeat (go_big_quiet_step (fail))
        refine wpQuiet_nil ?_
        rintro w' ⟨nd, rfl⟩
        go_wp2
        refine ⟨⟨k + 1, by omega, by go_num, ?_, ?_⟩, by simp [intOf]; omega⟩
        · have h5 := (own_stored (w := wr.drewN nd) HO2.out (k / 32 * 32 + k % 32) [.int .u8 x] HF.out).1
          rw [HE1.out] at h5
          rw [← HE2.out]
          exact h5
        · exact (below_drewN (n := nd) HB2.out).setCell (p := ⟨g, k / 32 * 32 + k % 32, none⟩) HG.out _
    · obtain rfl : k = n := by omega
      have HO := Lib.hid hown
      have HB := Lib.hid hbel
      clear hown hbel
      go_wp2
      go_ret
      refine ⟨_, rfl, ?_, HB.out⟩
      have := HO.out
      rw [HN.out, pad_spr] at this
      rw [spr_len]
      exact this
end Go.Proofs.YtikhhipgamllgaaDoor
