/- sector.Cut: some bytes of a sector; what Put makes of them; plain laws of SectorBack. Conditions: in each theorem. -/
import Derived.Test.YtikhhipgamllgaaDoorPut
import Derived.Test.YtikhhipgamllgaaDoorGat
import Derived.Test.YtikhhipgamllgaaDoorSprR
import Derived.Test.YtikhhipgamllgaaDoorSame
namespace Go.Proofs.YtikhhipgamllgaaDoor
open Go.RowKit
/-- the bytes that Cut gives -/
def cutS (s : Sec) (a : Int) (n : Int) : List Int := if fitsB a n then (s.1.drop a.toNat).take n.toNat else []
theorem sec_part (g a n : Nat) (ha : a + n ≤ 32) (W : World) : (Instr.sliceAt 34 (.pointer (some ⟨g, 0, none⟩)) (some (.int .i64 a)) (some (.int .i64 ((a + n : Nat) : Int))) none).run Tryd.prog W = .ok (.slice (some (if 32 = a then ⟨g, 0, none⟩ else ⟨g, a, none⟩)) n (32 - a)) W := by
  have e : Tryd.prog.arrayLen 34 = 32 := by kernel_rfl
  have hz : Tryd.prog.elem 34 = 5 := by kernel_rfl
  rw [run_sliceAt_array_lh W 34 ⟨g, 0, none⟩ (by rw [e, hz]; exact Tryd.underlying34) .i64 .i64 a ((a + n : Nat) : Int) (by omega) (by omega) (by rw [e]; omega), e, hz]
  have hs : (sizeOf 5).run Tryd.prog W = .ok 1 W := Tryd.sizeOf5 W
  rw [hs]
  simp only [Result.andThen_ok, slicedAt, Int.toNat_natCast, Nat.mul_one, Addr.add_mid, Nat.zero_add, Nat.add_sub_cancel_left]
theorem fitsB_spec {a n : Int} (h : fitsB a n = true) : 0 ≤ a ∧ a ≤ 32 ∧ 0 ≤ n ∧ n ≤ 32 - a := by
  simpa [fitsB, and_assoc] using h
set_option maxHeartbeats 1000000 in
theorem cut_any (s : Sec) (a : Int) (w : World) (h1 : a ≤ 9223372036854775807) (h2 : -9223372036854775808 ≤ a) :
    Calls Tryd.prog 16 #[.agg (cellsS s).toArray, .int .i64 a, .int .i64 4] w (GotRow w 5 1 (cutS s a 4).length (ub (cutS s a 4))) := by
  obtain ⟨w3, h3⟩ : ∃ w3, w.alloc (.cells (cellsS s).toArray 34) = w3 := ⟨_, rfl⟩
  have hb0 : Below w.heap.size w w3 := by rw [← h3]; exact (Below.refl _ w).alloc (Nat.le_refl _) _
  have hx : Blk w3 w.heap.size 34 (cellsS s).toArray := by rw [← h3]; exact Blk.new w 34 _
  have hs3 : w.heap.size + 1 = w3.heap.size := by rw [← h3]; simp
  have H3 := Lib.hid hb0
  have HX := Lib.hid hx
  have HS3 := Lib.hid hs3
  clear hb0 hx hs3
  cases hf : fitsB a 4 with
  | false =>
    have HF := Lib.hid hf
    have HC : Hid (cutS s a 4 = []) := Lib.hid (by simp [cutS, hf])
    clear hf
    go_enter Tryd.func16, Tryd.ntmps16
    go_wp2_with fail
    refine (fits_any a 4 _ h1 h2 (by omega) (by omega)).mono ?_
    rintro o w' ⟨rfl, rfl⟩
    rw [HF.out]
    go_wp2_with fail
    go_ret
    rw [HC.out]
    exact ⟨_, rfl, World.ownsRow_nil _ _ _ _, H3.out⟩
  | true =>
    obtain ⟨h0, h32, -, hle⟩ := fitsB_spec hf
    obtain ⟨k, rfl⟩ := Int.eq_ofNat_of_zero_le h0
    have hk : k + 4 ≤ 32 := by omega
    have HF := Lib.hid hf
    have HC : Hid (cutS s k 4 = (s.1.drop k).take 4) := Lib.hid (by simp [cutS, hf])
    have HCL : Hid (((s.1.drop k).take 4).length = 4) := Lib.hid (by rw [List.length_take, List.length_drop, s.2]; omega)
    have hsl := sec_part w.heap.size k 4 hk
    rw [if_neg (by omega)] at hsl
    simp only [show ((k + 4 : Nat) : Int) = (k : Int) + 4 by omega] at hsl
    clear hf h0 h32 hle
    have hcells : ∀ i, i < 4 → w3.cell? ((⟨w.heap.size, k, none⟩ : Addr).add i) = some (.int .u8 (((s.1.drop k).take 4).getD i 0)) := fun i hi => by
      rw [Addr.add_mid]
      refine HX.out.list ?_
      have hl : k + i < s.1.length := by rw [s.2]; omega
      rw [cellsS, ub_get, List.getD_eq_getElem?_getD, List.getElem?_take, if_pos hi, List.getElem?_drop, List.getElem?_eq_getElem hl]
      rfl
    have HCC := Lib.hid hcells
    clear hcells
    go_enter Tryd.func16, Tryd.ntmps16
    go_wp2_with fail
    refine (fits_any k 4 _ (by omega) (by omega) (by omega) (by omega)).mono ?_
    rintro o w' ⟨rfl, rfl⟩
    rw [HF.out]
    go_wp2_with (go_at_call 20; refine (Tryd.bytes_Clone_at ⟨w.heap.size, k, none⟩ 4 _ _ _ HCL.out (by omega) HCC.out).mono ?_; rintro e w' ⟨v', rfl, hown', -, hb'⟩; have HO' := Lib.hid hown'; have HB2 := Lib.hid hb'; clear hown' hb')
    go_ret
    rw [HC.out, HCL.out]
    exact ⟨_, rfl, own_base HO'.out (by have := HS3.out; omega), H3.out.trans (HB2.out.mono (by have := HS3.out; omega))⟩
theorem putS_cut (s : Sec) (a : Nat) (bs : List Int) (h : a + bs.length ≤ 32) (hb : bs = (s.1.drop a).take bs.length) : putS s a bs h = s := by
  apply Subtype.ext
  show s.1.take a ++ (bs ++ s.1.drop (a + bs.length)) = s.1
  conv => lhs; rw [hb]
  rw [List.length_take, List.length_drop, s.2, Nat.min_eq_left (by omega), ← List.drop_drop, List.take_append_drop, List.take_append_drop]
theorem put_cut (s : Sec) (a : Int) (A : Option Addr) (c : Nat) (w : World) (h1 : a ≤ 9223372036854775807) (h2 : -9223372036854775808 ≤ a)
    (hr : Reads w w.heap.size 1 A (cutS s a 4).length (ub (cutS s a 4))) :
    Calls Tryd.prog 15 #[.agg (cellsS s).toArray, .int .i64 a, .slice A (cutS s a 4).length c] w (PutTo w s (fitsB a (cutS s a 4).length)) := by
  cases hf : fitsB a (cutS s a 4).length with
  | false =>
    refine put_no s a A _ c w h1 h2 ?_ hf
    unfold cutS
    split
    · rw [List.length_take]; omega
    · simp
  | true =>
    obtain ⟨h0, h32, _, hle⟩ := fitsB_spec hf
    obtain ⟨k, rfl⟩ := Int.eq_ofNat_of_zero_le h0
    have hk : k + (cutS s k 4).length ≤ 32 := by omega
    have := put_yes s k A c (cutS s k 4) w hk hr
    rwa [putS_cut s k _ hk (by
      unfold cutS
      split
      · simp
      · simp)] at this
/-! ### plain laws -/
theorem torn_twice (s o : Sec) : tornS (tornS s o) o = tornS s o := by
  apply Subtype.ext
  show o.1.take 16 ++ (o.1.take 16 ++ s.1.drop 16).drop 16 = o.1.take 16 ++ s.1.drop 16
  rw [List.drop_append, List.length_take, o.2, List.drop_of_length_le (by rw [List.length_take]; omega)]
  simp
theorem torn_self (s : Sec) : tornS s s = s := by
  apply Subtype.ext
  exact List.take_append_drop 16 s.1
theorem unl_push (l : List Sec) (s : Sec) : (unl (l ++ [s]) l).length = 1 := by
  have h : ∀ k, k ≤ l.length → unlN (l ++ [s]) l k = [] := by
    intro k
    induction k with
    | zero => intro _; rfl
    | succ k ih =>
      intro hk
      have hb : unlB (l ++ [s]) l k = false := by
        rw [unlB_both (s := l[k]) (t := l[k]) (by rw [List.getElem?_append_left (by omega), List.getElem?_eq_getElem (by omega)]) (List.getElem?_eq_getElem (by omega))]
        simp
      rw [unlN_no hb, ih (by omega)]
  have hm : max (l ++ [s]).length l.length = l.length + 1 := by simp
  unfold unl
  rw [hm, ← (unlN_yes (unlB_left (Nat.le_refl _))).2, h _ (Nat.le_refl _)]
  rfl
theorem gath_spr (bs : List Int) : gath (spr bs) bs.length = some bs := by
  have hlen : bs.length ≤ 32 * (spr bs).length := by rw [spr_len]; unfold chN; omega
  have hub : ∀ a b : List Int, ub a = ub b → a = b := fun a b h => (List.map_inj_right (fun x y h => by injection h)).1 h
  have hfl : flatS (spr bs) = padF bs bs.length := hub _ _ (by rw [flatS_ub, pad_spr])
  have : (flatS (spr bs)).take bs.length = bs := by
    rw [hfl]
    unfold padF
    rw [List.take_of_length_le (Nat.le_refl _), List.take_append_of_le_length (Nat.le_refl _), List.take_of_length_le (Nat.le_refl _)]
  unfold gath
  rw [if_pos ⟨by omega, by omega⟩]
  simp [this]
end Go.Proofs.YtikhhipgamllgaaDoor
