/- The reference's Gather. Conditions: few sectors. -/
import Derived.Test.YtikhhipgamllgaaDoorGat
namespace Go.Proofs.YtikhhipgamllgaaDoor
open Go.RowKit
theorem flatS_get {l : List Sec} {k : Nat} {x : Int} (h : (flatS l)[k]? = some x) : ∃ s, l[k / 32]? = some s ∧ (cellsS s)[k % 32]? = some (.int .u8 x) := by
  have hk : k < l.length * 32 := by rw [← flatS_len]; exact (List.getElem?_eq_some_iff.1 h).1
  have hl : k / 32 < l.length := by omega
  refine ⟨l[k / 32], List.getElem?_eq_getElem hl, ?_⟩
  have e := cat_get cellsS 32 cellsS_len l (k / 32) (k % 32) _ (List.getElem?_eq_getElem hl) (by omega)
  rw [← e, show k / 32 * 32 + k % 32 = k by omega, ← flatS_ub, ub_get, h]; rfl
theorem ub_step {l : List Int} {k : Nat} {x : Int} (h : l[k]? = some x) : ub (l.take k) ++ [.int .u8 x] = ub (l.take (k + 1)) := by
  obtain ⟨hk, rfl⟩ := List.getElem?_eq_some_iff.1 h
  rw [List.take_succ_eq_append_getElem hk, ub_app]; rfl
set_option maxHeartbeats 1000000 in
theorem rgather_any (A : Option Addr) (c : Nat) (l : List Sec) (n : Int) (w : World) (hn : l.length ≤ 1000) (h1 : n ≤ 9223372036854775807) (h2 : -9223372036854775808 ≤ n) (hr : Reads w w.heap.size 32 A l.length (l.flatMap cellsS)) :
    Calls Tryd.prog 7 #[.slice A l.length c, .int .i64 n] w (GotG w (gath l n)) := by
  obtain ⟨p, hpp⟩ : ∃ n, n = l.length := ⟨_, rfl⟩
  have HP := Lib.hid hpp
  have HR := Lib.hid hr
  rw [← hpp] at hn ⊢
  clear hr hpp
  by_cases c1 : 0 ≤ n
  · obtain ⟨q, rfl⟩ : ∃ q : Nat, n = q := ⟨n.toNat, by omega⟩
    by_cases c2 : q ≤ 32 * p
    · have HG : Hid (gath l q = some ((flatS l).take q)) := Lib.hid (by unfold gath; rw [← HP.out, if_pos ⟨c1, by omega⟩]; rfl)
      have hT : Hid (((flatS l).take q).length = q) := Lib.hid (by rw [List.length_take, flatS_len, ← HP.out]; omega)
      clear c1 h1 h2
      have hng : decide ((q : Int) < 0) = false := by simp
      have hng2 : decide (32 * (p : Int) < (q : Int)) = false := by simp; omega
      obtain ⟨i5, hi, hz0, hz1, hz2⟩ := info_parts info5'
      have HI := Lib.hid hi
      have HZ0 := Lib.hid hz0
      have HZ1 := Lib.hid hz1
      have HZ2 := Lib.hid hz2
      clear hi hz0 hz1 hz2
      go_enter Tryd.func7, Tryd.ntmps7
      go_wp2
      go_loopw [6, 7] (fun v i wr => ∃ k : Nat, k ≤ q ∧ i = .int .i64 k ∧ wr.ownsRow w.heap.size 5 1 v k (ub ((flatS l).take k)) ∧ Below w.heap.size w wr) (fun _ i _ => q - (intOf i).toNat)
      case atStart => exact ⟨0, by omega, rfl, World.ownsRow_nil _ _ _ _, Below.refl _ _⟩
      case round =>
        obtain ⟨k, hk, rfl, hown, hbel⟩ := hrel
        by_cases hlt : k < q
        · obtain ⟨x, hx⟩ : ∃ x, (flatS l)[k]? = some x := ⟨_, List.getElem?_eq_getElem (by have := hT.out; rw [List.length_take] at this; omega)⟩
          obtain ⟨s, hs, hc⟩ := flatS_get hx
          obtain ⟨b, o, rfl, hb, hit⟩ := (HR.out.below hbel).item (f := cellsS) cellsS_len (by omega) (k := k / 32) (List.getElem?_eq_some_iff.1 hs).1
          have hcell := hit _ _ hs _ _ hc
          have HE := Lib.hid (ub_step hx)
          have HO := Lib.hid hown
          have HB := Lib.hid hbel
          clear hit hs hown hbel hx hc
          go_wp2_with (at_builtin; refine wpList_append_own _ rfl _ _ 22 rfl w.heap.size 5 i5 (.int .u8 0) 1 1 Tryd.underlying22 HI.out HZ0.out HZ1.out HZ2.out rfl (by decide) u6 k _ rfl (HO.out.alloc _) ⟨wr.heap.size, 0, none⟩ 1 1 [.int .u8 x] rfl rfl (cell_one_new _ _ _) (by simp [Value.oneCell']) (by unfold maxLen; omega) (by omega) (by have := HB.out.size; simp; omega) ?_; intro v2 w2 hown2 hgrow2 _)
          exact ⟨⟨k + 1, by omega, by go_num, HE.out ▸ hown2, ((HB.out).alloc HB.out.size _).grown hgrow2 (by have := HB.out.size; simp; omega) (fun g hg => (HO.out.lt g hg).1)⟩, by simp [intOf]; omega⟩
        · obtain rfl : k = q := by omega
          have HO := Lib.hid hown
          have HB := Lib.hid hbel
          clear hown hbel
          go_wp2
          go_ret2
          rw [HG.out]
          refine ⟨_, rfl, ?_, HB.out⟩
          have := HO.out
          simpa [hT.out] using this
    · have HG : Hid (gath l q = none) := Lib.hid (by unfold gath; rw [← HP.out, if_neg (by omega)])
      have hng : decide ((q : Int) < 0) = false := by simp
      have hng2 : decide (32 * (p : Int) < (q : Int)) = true := by simp; omega
      go_enter Tryd.func7, Tryd.ntmps7
      go_wp2
      go_ret2
      rw [HG.out]
      exact ⟨_, rfl, World.ownsRow_nil _ _ _ _, Below.refl _ _⟩
  · have HG : Hid (gath l n = none) := Lib.hid (by unfold gath; rw [if_neg (by omega)])
    go_enter Tryd.func7, Tryd.ntmps7
    go_wp2
    go_ret2
    rw [HG.out]
    exact ⟨_, rfl, World.ownsRow_nil _ _ _ _, Below.refl _ _⟩
end Go.Proofs.YtikhhipgamllgaaDoor
