/- The iterator of crash.each: all choices that are allowed, in order. Conditions: at most eight writes. -/
import Derived.RangeFuncNested
import Derived.RangeFuncBound
import Derived.RangeFuncCalls
import Derived.RangeFuncLeaves
import Derived.RangeFuncBox
import Derived.Shelf.Abstract
import Derived.Shelf.RegionOpen
import Derived.WalkKit
import Derived.OwnWalkIn
import Derived.TacticsInMore
import Derived.LoopNIn
import Derived.LoopIn
import Derived.Test.YtikhhipgamllgaaImgP
import Derived.Test.YtikhhipgamllgaaNth
namespace Go.Proofs.Ytikhhipgamllgaa
open Go.RowKit Go.Shelf
attribute [local go_sem] Oper.semAt_some
theorem nthN_lt {k n : Nat} {t : Bool} (hn : n ≤ 32) : nthN k n t < 18446744073709551616 := by
  unfold nthN
  split
  · have h1 : 0 < bs t := by cases t <;> simp [bs]
    have h2 : bs t ≤ 4 := by cases t <;> simp [bs]
    have h3 := nthS_lt (k := k) h1 h2 (n : Int).toNat
    have h4 := pow64 (n := (n : Int).toNat) (by omega)
    omega
  · omega
/-- what has come of the first k choices -/
def chK (n : Nat) (t : Bool) (es : List Int) : Nat → List Nat
  | 0 => []
  | k + 1 => if allowB (nthN k n t) es = true then chK n t es k ++ [nthN k n t] else chK n t es k
theorem chK_hit {n k : Nat} {t : Bool} {es : List Int} (h : allowB (nthN k n t) es = true) : chK n t es (k + 1) = chK n t es k ++ [nthN k n t] := by rw [chK, if_pos h]
theorem chK_miss {n k : Nat} {t : Bool} {es : List Int} (h : allowB (nthN k n t) es = false) : chK n t es (k + 1) = chK n t es k := by rw [chK, if_neg (by rw [h]; exact Bool.false_ne_true)]
theorem chK_pre (n : Nat) (t : Bool) (es : List Int) (k : Nat) : ∀ m, k ≤ m → chK n t es k <+: chK n t es m
  | 0, h => by obtain rfl : k = 0 := by omega
               exact List.prefix_rfl
  | m + 1, h => by
    rcases Nat.lt_or_ge k (m + 1) with h1 | h1
    · refine (chK_pre n t es k m (by omega)).trans ?_
      rw [chK]
      split
      · exact List.prefix_append _ _
      · exact List.prefix_rfl
    · obtain rfl : k = m + 1 := by omega
      exact List.prefix_rfl
theorem chK_len (n : Nat) (t : Bool) (es : List Int) : ∀ k, (chK n t es k).length ≤ k
  | 0 => Nat.le_refl _
  | k + 1 => by
    have := chK_len n t es k
    rw [chK]
    split
    · simp; omega
    · omega
theorem chK_lt {n k m : Nat} {t : Bool} {es : List Int} (h : allowB (nthN k n t) es = true) (hk : k < m) : (chK n t es k).length < (chK n t es m).length := by
  have h1 := (chK_pre n t es (k + 1) m hk).length_le
  rw [chK_hit h] at h1
  simp at h1; omega
/-- the blocks below a, and those from b to e, are as they were -/
def KeepB (a b e : Nat) (W W' : World) : Prop := ∀ j, (j < a ∨ (b ≤ j ∧ j < e)) → W'.heap[j]? = W.heap[j]?
theorem KeepB.refl (a b e : Nat) (W : World) : KeepB a b e W W := fun _ _ => rfl
theorem KeepB.trans {a b e : Nat} {X Y Z : World} (h : KeepB a b e X Y) (k : KeepB a b e Y Z) : KeepB a b e X Z := fun j hj => (k j hj).trans (h j hj)
theorem KeepB.put {a b e : Nat} {w : World} (ha : a ≤ w.heap.size) (he : e ≤ w.heap.size) (W : World) (l : Nat) (o o' : Obj) (hl : w.heap.size ≤ l) (_ : W.heap[l]? = some o) (_ : o.isCells = false) (_ : o.isWalk = false) : KeepB a b e W (W.putObj l o') := fun j hj =>
  World.putObj_heap_other (by omega)
theorem KeepB.cell {a b e : Nat} {W W' : World} (h : KeepB a b e W W') {g i : Nat} (hg : b ≤ g ∧ g < e) : W'.cell? ⟨g, i, none⟩ = W.cell? ⟨g, i, none⟩ := World.cell?_of_block (h g (.inr hg))
theorem KeepB.of_below {a b e : Nat} {W W' : World} (h : Below e W W') (ha : a ≤ e) : KeepB a b e W W' := fun j hj => h.block j (by omega)
theorem KeepB.own {a b e e' : Nat} {W W' : World} (h : KeepB a b e W W') {size n : Nat} {v : Value} {xs : List Value} (hw : e = W.heap.size) (ho : W.ownsRow b e' size v n xs) : W'.ownsRow b e' size v n xs := by
  refine ⟨ho.1, ?_⟩
  rcases ho.2 with h1 | ⟨g, cap, cur, hv, hg, hh, rest⟩
  · exact .inl h1
  · exact .inr ⟨g, cap, cur, hv, hg, (h g (.inr ⟨hg, by rw [hw]; exact (Array.getElem?_eq_some_iff.1 hh).1⟩)).trans hh, rest⟩
theorem cnt_le (n : Nat) (t : Bool) (h : n ≤ 8) : cnt n t ≤ 6561 := by
  unfold cnt
  rw [if_pos (by omega)]
  have h1 : bs t ≤ 3 := by cases t <;> simp [bs]
  calc bs t ^ (n : Int).toNat ≤ 3 ^ (n : Int).toNat := Nat.pow_le_pow_left h1 _
    _ ≤ 3 ^ 8 := Nat.pow_le_pow_right (by decide) (by omega)
    _ = 6561 := by decide
set_option maxRecDepth 100000 in
set_option maxHeartbeats 2000000 in
theorem each1_in (a b e0 : Nat) (l bn bt be : Nat) (n c : Nat) (t : Bool) (A : Option Addr) (es : List Int) (J Jx : List Nat → World → Prop) (W : World) (hn8 : n ≤ 8)
    (hY : ∀ pre x W1, J pre W1 → pre.length < (chK n t es (cnt n t)).length → YieldAt Fence.wide 3 Try.prog l #[.int .u64 (x : Nat)] W1 fun e W' =>
      (e = .returned (.bool true) ∧ J (pre ++ [x]) W' ∧ KeepB a b e0 W1 W') ∨ (e = .returned (.bool false) ∧ Jx (pre ++ [x]) W'))
    (hbn : b ≤ bn ∧ bn < e0) (hbt : b ≤ bt ∧ bt < e0) (hbe : b ≤ be ∧ be < e0)
    (h1 : W.cell? ⟨bn, 0, none⟩ = some (.int .i64 n)) (h2 : W.cell? ⟨bt, 0, none⟩ = some (.bool t)) (h3 : W.cell? ⟨be, 0, none⟩ = some (.slice A es.length c))
    (ho : ∀ W', KeepB a b e0 W W' → W'.ownsRow b 3 1 (.slice A es.length c) es.length (iz es)) (h0 : J [] W) :
    CallsIn Fence.wide 4 Try.prog 109 #[.func (.yield l) #[] #[], .pointer (some ⟨bn, 0, none⟩), .pointer (some ⟨bt, 0, none⟩), .pointer (some ⟨be, 0, none⟩)] W fun e W' => (∃ v, e = .returned v) ∧
      ((∃ ys, ys = chK n t es (cnt n t) ∧ J ys W') ∨ (∃ pre, pre <+: chK n t es (cnt n t) ∧ Jx pre W')) := by
  obtain ⟨N, hN⟩ : ∃ N, N = cnt n t := ⟨_, rfl⟩
  have hNle : N ≤ 6561 := by rw [hN]; exact cnt_le n t hn8
  rw [← hN] at hY ⊢
  have HN := Lib.hid hN
  have HY := Lib.hid hY
  have HO := Lib.hid ho
  clear hN hY ho
  obtain ⟨ne, hne⟩ : ∃ ne, ne = es.length := ⟨_, rfl⟩
  rw [← hne] at HO h3
  have HNE := Lib.hid hne
  have HH1 := Lib.hid h1
  have HH2 := Lib.hid h2
  have HH3 := Lib.hid h3
  clear hne h1 h2 h3
  refine callsIn_of_wp Try.func109 rfl trivial ?_ rfl
  simp only [Try.ntmps109, List.size_toArray, List.length_cons, List.length_nil, Nat.reduceAdd, Nat.reduceSub, Array.replicate_succ, Array.replicate_zero, List.push_toArray, List.append_toArray, List.nil_append, List.cons_append]
  have hc1 := HH1.out
  have hc2 := HH2.out
  gi_wp2_with (refine ⟨trivial, ?_⟩; gi_at_call 21; refine (callsIn_wide.2 (count_any n t _)).mono ?_; rintro e w' ⟨rfl, rfl⟩; rw [← HN.out])
  clear hc1 hc2
  gi_loopw [10] (fun i wr => ∃ k : Nat, k ≤ N ∧ i = .int .u64 k ∧ Hid (J (chK n t es k) wr) ∧ Hid (KeepB a b e0 W wr)) (fun i _ => N - (intOf i).toNat)
  case atStart => exact ⟨0, by omega, rfl, Lib.hid h0, Lib.hid (KeepB.refl _ _ _ _)⟩
  case round =>
    obtain ⟨k, hk, rfl, HJ, HK⟩ := hrel
    by_cases hlt : k < N
    · have hc1 : wr.cell? ⟨bn, 0, none⟩ = some (.int .i64 n) := (HK.out.cell hbn).trans HH1.out
      have hc2 : wr.cell? ⟨bt, 0, none⟩ = some (.bool t) := (HK.out.cell hbt).trans HH2.out
      have hc3 : wr.cell? ⟨be, 0, none⟩ = some (.slice A ne c) := (HK.out.cell hbe).trans HH3.out
      have hx64 : nthN k n t < 18446744073709551616 := nthN_lt (by omega)
      obtain ⟨x, hx⟩ : ∃ x, x = nthN k n t := ⟨_, rfl⟩
      have HX := Lib.hid hx
      rw [← hx] at hx64
      have HX64 := Lib.hid hx64
      have CA := allow_any x A c es wr hx64 (by have := HO.out wr HK.out; rw [HNE.out] at this; exact Reads.of_own this)
      rw [← HNE.out] at CA
      have HCA := Lib.hid CA
      clear hx hx64 CA
      cases hal : allowB x es
      · have HAL := Lib.hid hal
        have HI : Hid (chK n t es (k + 1) = chK n t es k) := Lib.hid (chK_miss (by rw [← HX.out]; exact hal))
        clear hal
        gi_wp2_with (first | (refine ⟨trivial, ?_⟩; gi_at_call 23; refine (callsIn_wide.2 (nth_any k n t _ (by omega))).mono ?_; rintro e w' ⟨rfl, rfl⟩; rw [← HX.out]) | (refine ⟨trivial, ?_⟩; gi_at_call 27; refine (callsIn_wide.2 HCA.out).mono ?_; rintro e w' ⟨rfl, rfl⟩; rw [HAL.out]))
        refine ⟨fun _ h => (by cases h), ?_⟩
        gi_wp2
        exact ⟨⟨k + 1, by omega, by go_num, Lib.hid (by rw [HI.out]; exact HJ.out), HK⟩, by simp [intOf]; omega⟩
      · have HAL := Lib.hid hal
        have HI : Hid (chK n t es (k + 1) = chK n t es k ++ [x]) := Lib.hid (by rw [chK_hit (by rw [← HX.out]; exact hal), ← HX.out])
        have hlen : (chK n t es k).length < (chK n t es N).length := chK_lt (by rw [← HX.out]; exact hal) hlt
        obtain ⟨fn, tmps, assign, body, hy, hR⟩ := HY.out (chK n t es k) x wr HJ.out hlen
        have HR := Lib.hid hR
        clear hal hlen hR
        gi_wp2_with (first | (refine ⟨trivial, ?_⟩; gi_at_call 23; refine (callsIn_wide.2 (nth_any k n t _ (by omega))).mono ?_; rintro e w' ⟨rfl, rfl⟩; rw [← HX.out]) | (refine ⟨trivial, ?_⟩; gi_at_call 27; refine (callsIn_wide.2 HCA.out).mono ?_; rintro e w' ⟨rfl, rfl⟩; rw [HAL.out]))
        refine HR.out.mono ?_
        rintro e W3 (⟨rfl, hJ3, hk3⟩ | ⟨rfl, hJx3⟩)
        · have HJ3 := Lib.hid hJ3
          have HK3 := Lib.hid hk3
          clear hJ3 hk3
          gi_wp2
          exact ⟨⟨k + 1, by omega, by go_num, Lib.hid (by rw [HI.out]; exact HJ3.out), Lib.hid (HK.out.trans HK3.out)⟩, by simp [intOf]; omega⟩
        · have HJ3 := Lib.hid hJx3
          clear hJx3
          gi_wp2
          refine bodyPost_ret (results_none rfl _ _ _) rfl ?_
          exact ⟨⟨_, rfl⟩, .inr ⟨chK n t es k ++ [x], by rw [← HI.out]; exact chK_pre n t es (k + 1) N hlt, HJ3.out⟩⟩
    · obtain rfl : k = N := by omega
      gi_wp2
      go_end0
      exact ⟨⟨_, rfl⟩, .inl ⟨_, rfl, HJ.out⟩⟩
end Go.Proofs.Ytikhhipgamllgaa
