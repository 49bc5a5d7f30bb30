/- The state of the law BdiskReads: the disk, what was written last. Conditions: in each theorem. -/
import Derived.Test.YtikhhipgamllgaaSynced
import Derived.Test.YtikhhipgamllgaaWrite
namespace Go.Proofs.Ytikhhipgamllgaa
open Go.RowKit
def zeroAc : Ac := ⟨0, 0, zeroSec, ⟨0, 0⟩, [], none, 0, [], none, 0⟩
theorem info72s : (Try.prog.info? 72).map (·.size) = some 38 := by kernel_rfl
theorem z67 (W : World) : (zeroValue 67).run Try.prog W = .ok (.agg (List.replicate 2080 (Value.int .u8 0)).toArray) W := by kernel_rfl
theorem z72 (W : World) : (zeroValue 72).run Try.prog W = .ok (.agg (cellsA zeroAc).toArray) W := by kernel_rfl
theorem ldA {W : World} {b o : Nat} {a : Ac} (h : W.rangeAt b o (cellsA a)) : (Instr.loadAt 72 (.pointer (some ⟨b, o, none⟩))).run Try.prog W = .ok (.agg (cellsA a).toArray) W :=
  run_loadAt_mid W b o 72 (cellsA a) _ h Try.underlying72 rfl (by rw [cellsA_len]; exact info72s)
theorem ldTm {W : World} {b o : Nat} {t : Tg} (h : W.rangeAt b o (cellsT t)) : (Instr.loadAt 69 (.pointer (some ⟨b, o, none⟩))).run Try.prog W = .ok (.agg (cellsT t).toArray) W :=
  run_loadAt_mid W b o 69 (cellsT t) _ h Try.underlying69 rfl (by rw [cellsT_len]; exact info69)
theorem store72 (w : World) (a b : Ac) : (Instr.storeAt 72 (.pointer (some ⟨w.heap.size, 0, none⟩)) (.agg (cellsA a).toArray)).run Try.prog (w.alloc (.cells (cellsA b).toArray 72)) = .ok () (w.alloc (.cells (cellsA a).toArray 72)) :=
  run_storeAt_new (P := Try.prog) w 72 (cellsA b).toArray (cellsA a).toArray (by rw [List.size_toArray, cellsA_len]; exact info72s) (by simp [cellsA_len]) (all_oneCell_toArray (cellsA_one a))
structure LawAt (w0 : World) (n k g g7 : Nat) (F : Nat → Prop) (L : List Sec) (D : Dk) (W : World) : Prop where
  disk : DiskAt W F g D
  last : Blk W g7 67 (L.flatMap cellsS).toArray
  len : L.length = 65
  held : Held n k (fun j => L.getD j zeroSec) D
  base : ∀ q, F q → w0.heap.size ≤ q
  free : ¬ F g7
  low : w0.heap.size ≤ g7
  below : Below w0.heap.size w0 W
section
variable {w0 : World} {n k g g7 : Nat} {F : Nat → Prop} {L : List Sec} {D : Dk} {W W' : World}
theorem LawAt.grow (h : LawAt w0 n k g g7 F L D W) (hb : Below W.heap.size W W') : LawAt w0 n k g g7 F L D W' :=
  ⟨h.disk.below hb, h.last.below hb h.last.lt, h.len, h.held, h.base, h.free, h.low, below_then h.below hb⟩
theorem LawAt.more (h : LawAt w0 n k g g7 F L D W) : LawAt w0 n (k + 1) g g7 F L D W := ⟨h.disk, h.last, h.len, h.held.more, h.base, h.free, h.low, h.below⟩
theorem LawAt.turn (h : LawAt w0 n k g g7 F L D W) {D' : Dk} {k' : Nat} {f : Nat → Sec} (ht : Turned W F g D' W') (hh : Held n k' f D') :
    ∃ F', DiskAt W' F' g D' ∧ Blk W' g7 67 (L.flatMap cellsS).toArray ∧ (∀ q, F' q → w0.heap.size ≤ q) ∧ ¬ F' g7 ∧ Below w0.heap.size w0 W' ∧ OnlyF F W W' ∧ Held n k' f D' := by
  obtain ⟨F', hd, hw, ho⟩ := ht
  exact ⟨F', hd, ho.blk h.last h.free, hw.base h.below.size h.base, hw.not h.last.lt h.free, h.below.trans (ho.below h.below.size h.base), ho, hh⟩
theorem LawAt.turned (h : LawAt w0 n k g g7 F L D W) {D' : Dk} {k' : Nat} (ht : Turned W F g D' W') (hh : Held n k' (fun j => L.getD j zeroSec) D') : ∃ F', LawAt w0 n k' g g7 F' L D' W' ∧ OnlyF F W W' := by
  obtain ⟨F', h1, h2, h3, h4, h5, h6, h7⟩ := h.turn ht hh
  exact ⟨F', ⟨h1, h2, h.len, h7, h3, h4, h.low, h5⟩, h6⟩
/-- a write that was taken, and kept in mind -/
theorem LawAt.wrote {F' : Nat → Prop} (h : LawAt w0 n k g g7 F L D W) {D' : Dk} {m : Nat} {s : Sec} (hm : m < 65) (hd : DiskAt W' F' g D') (hl : Blk W' g7 67 (L.flatMap cellsS).toArray) (hb : ∀ q, F' q → w0.heap.size ≤ q) (hf : ¬ F' g7) (hB : Below w0.heap.size w0 W')
    (hh : Held n (k + 1) (fun j => if j = m then s else L.getD j zeroSec) D') :
    ∃ W2, (Instr.storeAt 66 (.pointer (some ⟨g7, m * 32, none⟩)) (.agg (cellsS s).toArray)).run Try.prog W' = .ok () W2 ∧ OnlyF (fun q => q = g7) W' W2 ∧ LawAt w0 n (k + 1) g g7 F' (L.set m s) D' W2 := by
  have hcl : (L.flatMap cellsS).length = 65 * 32 := by rw [cat_len cellsS 32 cellsS_len, h.len]
  have hfit : m * 32 + (cellsS s).length ≤ (L.flatMap cellsS).toArray.size := by rw [List.size_toArray, hcl, cellsS_len]; omega
  have hset := hl.setCells_ (cellsS s) (m * 32) W' _ hfit
  have hg := grownBy_setCells W' g7 (m * 32) (cellsS s)
  have hO : OnlyF (fun q => q = g7) W' (W'.setCells g7 (m * 32) (cellsS s)) := (OnlyF.refl _ _).grown hg (fun q hq _ => by cases hq; rfl)
  refine ⟨_, run_storeAt_mid W' g7 (m * 32) 66 (cellsS s).toArray (hl.there (by simpa using hfit)) (by rw [List.size_toArray, cellsS_len]; exact info66) (all_oneCell_toArray (cellsS_one s)), hO, ?_⟩
  refine ⟨hd.keep hO (fun q hq e => hf (by rw [← e]; exact hq)), ?_, by simp [h.len], ?_, hb, hf, h.low, hB.trans (hO.below hB.size (fun q hq => by rw [hq]; exact h.low))⟩
  · rw [cat_set cellsS 32 cellsS_len L m s (by rw [h.len]; exact hm)]
    simpa using hset
  · have e : (fun j => if j = m then s else L.getD j zeroSec) = fun j => (L.set m s).getD j zeroSec := by
      funext j
      simp only [List.getD_eq_getElem?_getD, List.getElem?_set]
      by_cases hj : m = j
      · subst hj
        rw [if_pos rfl, if_pos rfl, if_pos (by rw [h.len]; exact hm)]; rfl
      · rw [if_neg (fun e => hj e.symm), if_neg hj]
    rw [← e]; exact hh
theorem LawAt.get (h : LawAt w0 n k g g7 F L D W) {j : Nat} (hj : j < 65) : W.rangeAt g7 (j * 32) (cellsS (L.getD j zeroSec)) := by
  have hl : L[j]? = some (L.getD j zeroSec) := by
    rw [List.getD_eq_getElem?_getD, List.getElem?_eq_getElem (by rw [h.len]; exact hj)]; rfl
  exact h.last.range (j * 32) _ (fun i v hi => by
    rw [List.getElem?_toArray, cat_get cellsS 32 cellsS_len L j i _ hl (by rw [← cellsS_len (L.getD j zeroSec)]; exact (List.getElem?_eq_some_iff.1 hi).1)]
    exact hi)
theorem law_start {w0 W : World} {n g : Nat} {F : Nat → Prop} (hd : DiskAt W F g (Dk.fresh n)) (hb : ∀ q, F q → w0.heap.size ≤ q) (hB : Below w0.heap.size w0 W) :
    LawAt w0 n 0 g W.heap.size F (List.replicate 65 zeroSec) (Dk.fresh n) (W.alloc (.cells (List.replicate 2080 (Value.int .u8 0)).toArray 67)) := by
  have hb1 : Below W.heap.size W (W.alloc (.cells (List.replicate 2080 (Value.int .u8 0)).toArray 67)) := (Below.refl _ W).alloc (Nat.le_refl _) _
  have he := held_fresh n
  have e : (fun _ => zeroSec) = fun j => (List.replicate 65 zeroSec).getD j zeroSec := by
    funext j
    simp only [List.getD_eq_getElem?_getD, List.getElem?_replicate]
    split <;> rfl
  rw [e] at he
  exact ⟨hd.below hb1, by rw [zeros_flat]; exact Blk.new W 67 _, List.length_replicate, he, hb, fun h => absurd (hd.lt _ h) (Nat.lt_irrefl _), hB.size, below_then hB hb1⟩
end
end Go.Proofs.Ytikhhipgamllgaa
