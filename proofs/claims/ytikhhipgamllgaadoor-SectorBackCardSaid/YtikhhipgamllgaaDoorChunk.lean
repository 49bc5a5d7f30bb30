/- slices.Chunk and its iterator. Conditions: at least as many cells as the slice has elements. -/
import Derived.RangeFuncNested
import Derived.RangeFuncBound
import Derived.RangeFuncCalls
import Derived.RangeFuncLeaves
import Derived.RangeFuncBox
import Derived.Shelf.Abstract
import Derived.Shelf.RegionOpen
import Derived.WalkKit
import Derived.OwnWalkIn
import Derived.TacticsInMore
import Derived.LoopNIn
import Derived.LoopIn
import Derived.RegionIn
import Derived.Lib.MinMax
import Derived.Test.YtikhhipgamllgaaDoorSec
namespace Go.Proofs.YtikhhipgamllgaaDoor
open Go.RowKit Go.Shelf
attribute [local go_sem] Oper.semAt_some
/-- the blocks below a, and those from b to e, are as they were -/
def KeepB (a b e : Nat) (W W' : World) : Prop := ∀ j, (j < a ∨ (b ≤ j ∧ j < e)) → W'.heap[j]? = W.heap[j]?
theorem KeepB.refl (a b e : Nat) (W : World) : KeepB a b e W W := fun _ _ => rfl
theorem KeepB.trans {a b e : Nat} {X Y Z : World} (h : KeepB a b e X Y) (k : KeepB a b e Y Z) : KeepB a b e X Z := fun j hj => (k j hj).trans (h j hj)
theorem KeepB.put {a b e : Nat} {w : World} (ha : a ≤ w.heap.size) (he : e ≤ w.heap.size) (W : World) (l : Nat) (o o' : Obj) (hl : w.heap.size ≤ l) (_ : W.heap[l]? = some o) (_ : o.isCells = false) (_ : o.isWalk = false) : KeepB a b e W (W.putObj l o') := fun j hj =>
  World.putObj_heap_other (by omega)
theorem KeepB.cell {a b e : Nat} {W W' : World} (h : KeepB a b e W W') {g i : Nat} (hg : b ≤ g ∧ g < e) : W'.cell? ⟨g, i, none⟩ = W.cell? ⟨g, i, none⟩ := World.cell?_of_block (h g (.inr hg))
theorem KeepB.of_below {a b e : Nat} {W W' : World} (h : Below e W W') (ha : a ≤ e) : KeepB a b e W W' := fun j hj => h.block j (by omega)
theorem KeepB.own {a b e e' : Nat} {W W' : World} (h : KeepB a b e W W') {size n : Nat} {v : Value} {xs : List Value} (hw : e = W.heap.size) (ho : W.ownsRow b e' size v n xs) : W'.ownsRow b e' size v n xs := by
  refine ⟨ho.1, ?_⟩
  rcases ho.2 with h1 | ⟨g, cap, cur, hv, hg, hh, rest⟩
  · exact .inl h1
  · exact .inr ⟨g, cap, cur, hv, hg, (h g (.inr ⟨hg, by rw [hw]; exact (Array.getElem?_eq_some_iff.1 hh).1⟩)).trans hh, rest⟩

/-- how many chunks -/
def chN (n : Nat) : Nat := (n + 31) / 32
def chE (A : Option Addr) (n : Nat) (k : Nat) : Array Value := #[.slice (A.map (·.add (32 * k))) (min 32 (n - 32 * k)) (min 32 (n - 32 * k))]
set_option maxRecDepth 100000 in
set_option maxHeartbeats 2000000 in
theorem chunk1_in (a b e0 : Nat) (l bs bn : Nat) (n c : Nat) (A : Option Addr) (J Jx : List Nat → World → Prop) (W : World) (hn8 : n ≤ 1000) (hnc : n ≤ c) (hA : 0 < n → ∃ ad, A = some ad)
    (hY : ∀ pre x W1, J pre W1 → pre.length < chN n → YieldAt Fence.wide 3 Tryd.prog l (chE A n x) W1 fun e W' =>
      (e = .returned (.bool true) ∧ J (pre ++ [x]) W' ∧ KeepB a b e0 W1 W') ∨ (e = .returned (.bool false) ∧ Jx (pre ++ [x]) W'))
    (hbn : b ≤ bn ∧ bn < e0) (hbs : b ≤ bs ∧ bs < e0)
    (h1 : W.cell? ⟨bs, 0, none⟩ = some (.slice A n c)) (h2 : W.cell? ⟨bn, 0, none⟩ = some (.int .i64 32)) (h0 : J [] W) (hJd : ∀ pre W, J pre W → J pre W.drew) :
    CallsIn Fence.wide 4 Tryd.prog 26 #[.func (.yield l) #[] #[], .pointer (some ⟨bs, 0, none⟩), .pointer (some ⟨bn, 0, none⟩)] W fun e W' => (∃ v, e = .returned v) ∧
      ((∃ ys, ys = List.range (chN n) ∧ J ys W') ∨ (∃ pre, True ∧ Jx pre W')) := by
  obtain ⟨N, hN⟩ : ∃ N, N = chN n := ⟨_, rfl⟩
  rw [← hN] at hY ⊢
  have hN' : N = (n + 31) / 32 := hN
  have HN := Lib.hid hN'
  have HY := Lib.hid hY
  have HA := Lib.hid hA
  have HH1 := Lib.hid h1
  have HH2 := Lib.hid h2
  clear hN hN' hY hA h1 h2
  refine callsIn_of_wp Tryd.func26 rfl trivial ?_ rfl
  simp only [Tryd.ntmps26, List.size_toArray, List.length_cons, List.length_nil, Nat.reduceAdd, Nat.reduceSub, Array.replicate_succ, Array.replicate_zero, List.push_toArray, List.append_toArray, List.nil_append, List.cons_append]
  gi_wp2
  gi_loopw [4] (fun i wr => ∃ k : Nat, k ≤ N ∧ i = .int .i64 (32 * k : Nat) ∧ Hid (J (List.range k) wr) ∧ Hid (KeepB a b e0 W wr)) (fun i _ => 32 * N - (intOf i).toNat)
  case atStart => exact ⟨0, by omega, rfl, Lib.hid h0, Lib.hid (KeepB.refl _ _ _ _)⟩
  case round =>
    obtain ⟨k, hk, rfl, HJ, HK⟩ := hrel
    have hc1 : wr.cell? ⟨bs, 0, none⟩ = some (.slice A n c) := (HK.out.cell hbs).trans HH1.out
    have hc2 : wr.cell? ⟨bn, 0, none⟩ = some (.int .i64 32) := (HK.out.cell hbn).trans HH2.out
    obtain ⟨I, hI⟩ : ∃ I, I = 32 * k := ⟨_, rfl⟩
    rw [← hI]
    by_cases hlt : I < n
    · obtain ⟨ad, rfl⟩ := HA.out (by omega)
      obtain ⟨E, hE⟩ : ∃ E, E = min 32 (n - I) := ⟨_, rfl⟩
      have hkN : k < N := by have := HN.out; omega
      obtain ⟨fn, tmps, assign, body, hy, hR⟩ := HY.out (List.range k) k wr.drew (hJd _ _ HJ.out) (by rw [List.length_range]; exact hkN)
      have hye : chE (some ad) n k = #[.slice (some (ad.add I)) E E] := by unfold chE; rw [← hI, ← hE]; rfl
      rw [hye] at hy
      have HR := Lib.hid hR
      have hEI : min (32 : Int) ((n - I : Nat) : Int) = (E : Int) := by omega
      have hEE : ((I : Int) + (E : Int)).toNat - I = E := by omega
      have hE32 : E ≤ 32 := by omega
      have hEn : I + E ≤ n := by omega
      have HE := Lib.hid hE
      have HII := Lib.hid hI
      clear hR hE hI hye
      gi_wp2
      gi_region
      gi_wp2
      refine HR.out.mono ?_
      rintro e W3 (⟨rfl, hJ3, hk3⟩ | ⟨rfl, hJx3⟩)
      · have HJ3 := Lib.hid hJ3
        have HK3 := Lib.hid hk3
        have hc3 : W3.cell? ⟨bn, 0, none⟩ = some (.int .i64 32) := (hk3.cell hbn).trans hc2
        clear hJ3 hk3
        gi_wp2
        have hII := HII.out
        refine ⟨⟨k + 1, by omega, by congr 1; omega, Lib.hid (by rw [List.range_succ]; exact HJ3.out), Lib.hid (HK.out.trans HK3.out)⟩, ?_⟩
        simp [intOf]; omega
      · have HJ3 := Lib.hid hJx3
        clear hJx3
        gi_wp2
        refine bodyPost_ret (results_none rfl _ _ _) rfl ?_
        exact ⟨⟨_, rfl⟩, .inr ⟨_, trivial, HJ3.out⟩⟩
    · obtain rfl : k = N := by have := HN.out; omega
      gi_wp2
      go_end0
      exact ⟨⟨_, rfl⟩, .inl ⟨_, rfl, HJ.out⟩⟩
set_option maxHeartbeats 1000000 in
/-- slices.Chunk, at 32 -/
theorem chunk_any (A : Option Addr) (n c : Nat) (w : World) :
    Calls Tryd.prog 22 #[.slice A n c, .int .i64 32] w fun o w' => o = .returned (.func (.func 26) #[] #[.pointer (some ⟨w.heap.size, 0, none⟩), .pointer (some ⟨w.heap.size + 1, 0, none⟩)]) ∧
      w' = (w.alloc (.cells #[.slice A n c] 22)).alloc (.cells #[.int .i64 32] 3) := by
  go_enter Tryd.func22, Tryd.ntmps22
  go_wp2
  go_ret
  exact ⟨rfl, rfl⟩
end Go.Proofs.YtikhhipgamllgaaDoor
